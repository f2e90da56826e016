/-
  Proved: laws on the way to 'SdriveHoldsProof' (texts DwPlan2 DwLit DwPlan3 DwEnd DwOpen DwEnt); no condition.
-/
import Derived.Test.YtaichlekaoefpaaGreatM3
import Derived.RowKit3
import Derived.ChangeSame
set_option linter.unusedSimpArgs false
set_option linter.unusedVariables false
set_option maxHeartbeats 4000000
noncomputable section
namespace Go.Dw
def mkOf (ops:Array Oper) (i:Nat):Nat:=(zdm ops.toList).getD i 0
def hsOf (ops:Array Oper):List Nat:=zb9 ops.toList 0
def stOf (ops:Array Oper) (i:Nat):Nat:=zbO (mkOf ops i) (hsOf ops) 0 0
def zc9 (ops:Array Oper):List PO:=posOf (hsOf ops) ops.toList (zdm ops.toList) 0
def hpOf (ops:Array Oper):List PO:=(zc9 ops).filter fun p=>zaW p.o
structure PF (ops:Array Oper):Prop where
 edges:zcP ops
 chain: ∀u h h',(hsOf ops)[u]? =some h→(hsOf ops)[u+1]? =some h'→(mkOf ops h').testBit h=true
 reads: ∀(p q:Nat) (o oq:Oper) (t:Tmp),ops[p]? =some o→ops[q]? =some oq→oq.dst=some t→t∈looks ops o→(mkOf ops p).testBit q=true∨(mkOf ops q).testBit p=true
 dsts: ∀(p q:Nat) (o oq:Oper) (t:Tmp),p≠q→ops[p]? =some o→ops[q]? =some oq→o.dst=some t→oq.dst≠some t
 nodef: ∀(p:Nat) (o:Oper),ops[p]? =some o→zhh o=false
 rer: ∀(u h p q:Nat) (o oq:Oper) (t:Tmp),(hsOf ops)[u]? =some h→ops[p]? =some o→zhg o=true→stOf ops p≤u→(mkOf ops h).testBit p=false→
  ops[q]? =some oq→oq.dst=some t→t∈looks ops o→(mkOf ops p).testBit q=true∨u<stOf ops q
theorem zdq: ∀(l:List Oper) (n i:Nat),i∈zb9 l n↔ ∃k o,i=n+k∧l[k]? =some o∧zaW o=true
 | [], n,i=>by simp [zb9]
 | o::l,n,i=>by
  unfold zb9;split
  ·rename_i h;rw [List.mem_cons,zdq l (Nat.succ n) i];constructor
   ·rintro (rfl|⟨k,o',h1,h2,h3⟩)
    ·exact ⟨0,o,rfl,rfl,h⟩
    ·exact ⟨k+1,o',by omega,by simpa using h2,h3⟩
   ·rintro ⟨k,o',h1,h2,h3⟩;cases k with
    | zero=>left;simpa using h1
    | succ k=>exact .inr ⟨k,o',by omega,by simpa using h2,h3⟩
  ·rename_i h;rw [zdq l (Nat.succ n) i];constructor
   ·rintro ⟨k,o',h1,h2,h3⟩;exact ⟨k+1,o',by omega,by simpa using h2,h3⟩
   ·rintro ⟨k,o',h1,h2,h3⟩;cases k with
    | zero=>
     simp only [List.getElem?_cons_zero,Option.some.injEq] at h2;subst h2;rw [h] at h3;cases h3
    | succ k=>exact ⟨k,o',by omega,by simpa using h2,h3⟩
theorem zc5: ∀(l:List Oper) (n:Nat),(zb9 l n).Pairwise (· < ·)
 | [], n=>List.Pairwise.nil
 | o::l,n=>by
  unfold zb9;split
  ·refine List.Pairwise.cons (fun i hi=> ?_) (zc5 l _);obtain ⟨k,_,h,_⟩:=(zdq l _ i).1 hi;omega
  ·exact zc5 l _
theorem ze6 {ops:Array Oper} {i:Nat}:(∃u:Nat,(hsOf ops)[u]? =some i)↔ ∃o,ops[i]? =some o∧zaW o=true:=by
 rw [←List.mem_iff_getElem?];unfold hsOf;rw [zdq];constructor
 ·rintro ⟨k,o,h1,h2,h3⟩;have e:i=k:=by omega
  subst e;exact ⟨o,by simpa using h2,h3⟩
 ·rintro ⟨o,h2,h3⟩;exact ⟨i,o,by omega,by simpa using h2,h3⟩
theorem zl2 {ops:Array Oper} {u v x y:Nat} (h1:(hsOf ops)[u]? =some x) (h2:(hsOf ops)[v]? =some y) (h:x<y):u<v:=by
 apply Classical.byContradiction;intro hn;obtain ⟨hu,e1⟩:=List.getElem?_eq_some_iff.1 h1;obtain ⟨hv,e2⟩:=List.getElem?_eq_some_iff.1 h2;rcases Nat.lt_or_eq_of_le (Nat.le_of_not_lt hn) with hlt|heq
 ·have:=(List.pairwise_iff_getElem.1 (zc5 ops.toList 0)) v u hv hu hlt;change (hsOf ops)[v]<(hsOf ops)[u] at this;omega
 ·subst heq;rw [h1] at h2;cases h2;exact Nat.lt_irrefl _ h
theorem znA {ops:Array Oper} {u v x:Nat} (h1:(hsOf ops)[u]? =some x) (h2:(hsOf ops)[v]? =some x):u=v:=by
 obtain ⟨hu,e1⟩:=List.getElem?_eq_some_iff.1 h1;obtain ⟨hv,e2⟩:=List.getElem?_eq_some_iff.1 h2;rcases Nat.lt_trichotomy u v with h|h|h
 ·have:=(List.pairwise_iff_getElem.1 (zc5 ops.toList 0)) u v hu hv h;change (hsOf ops)[u]<(hsOf ops)[v] at this;omega
 ·exact h
 ·have:=(List.pairwise_iff_getElem.1 (zc5 ops.toList 0)) v u hv hu h;change (hsOf ops)[v]<(hsOf ops)[u] at this;omega
theorem zeZ {ops:Array Oper} {i x:Nat} (h:ops[i]? =none):(mkOf ops i).testBit x=false:=by
 unfold mkOf;rw [List.getD_eq_getElem?_getD,List.getElem?_eq_none (by rw [zb3];simpa using h)];simp
theorem zg3 {ops:Array Oper} (he:zcP ops): ∀(i x:Nat),(mkOf ops i).testBit x=true→x<i:=by
 intro i
 induction i using Nat.strongRecOn with
 | _ i ih=>
  intro x hx;cases ho:ops[i]? with
  | none=>rw [zeZ ho] at hx;cases hx
  | some o=>
   obtain ⟨e,h1,h2,h3⟩:=zdl ops.toList [] i x o (by simpa using ho) (by simpa [mkOf,zdm] using hx);have hlt:=he i o ho e (by simpa using h1) h2;rcases h3 with rfl|⟨h3,h4⟩
   ·exact hlt
   ·have:=ih e.on hlt x (by simpa [mkOf,zdm] using h4);omega
theorem zfZ {ms:List Nat}: ∀ {l:List Edge} {x:Nat} {e:Edge},e∈l→Region.binds .any e=true→(x=e.on∨(ms.getD e.on 0).testBit x=true)→(za5 ms l).testBit x=true
 | [], x,e,h,_,_=>by cases h
 | e'::l,x,e,h,hb,hx=>by
  unfold za5;rcases List.mem_cons.1 h with rfl|h
  ·rw [hb];show (((2^e.on)|||(ms.getD e.on 0))|||za5 ms l).testBit x=true;rw [Nat.testBit_or,Nat.testBit_or,Nat.testBit_two_pow];rcases hx with rfl|hx
   ·simp
   ·rw [hx];simp
  ·have ih:=zfZ h hb hx;split
   ·show (((2^e'.on)|||(ms.getD e'.on 0))|||za5 ms l).testBit x=true;rw [Nat.testBit_or,ih];simp
   ·exact ih
theorem zfV: ∀(l:List Oper) (ms:List Nat) (i x:Nat) (o:Oper),l[i]? =some o→ ∀e∈o.after.toList,Region.binds .any e=true→e.on<ms.length+i→
  (x=e.on∨((zbI l ms).getD e.on 0).testBit x=true)→((zbI l ms).getD (ms.length+i) 0).testBit x=true
 | [], ms,i,x,o,h,_,_,_,_,_=>by simp at h
 | o'::l,ms,0,x,o,h,e,he,hb,hlt,hx=>by
  simp at h;subst h;unfold zbI at hx ⊢;rw [List.getD_eq_getElem?_getD,zco l _ _ (by simp),List.getElem?_append_right (by simp)];simp only [Nat.add_zero,Nat.sub_self,List.getElem?_cons_zero,Option.getD_some];refine zfZ he hb (hx.imp id fun hx=> ?_);rw [List.getD_eq_getElem?_getD,zco l _ _ (by simp;omega),List.getElem?_append_left (by omega),←List.getD_eq_getElem?_getD] at hx;exact hx
 | o'::l,ms,i+1,x,o,h,e,he,hb,hlt,hx=>by
  unfold zbI at hx ⊢;have:=zfV l (ms++ [za5 ms o'.after.toList]) i x o (by simpa using h) e he hb (by simp;omega) hx;simpa [Nat.add_assoc,Nat.add_comm 1 i] using this
theorem zqJ {ops:Array Oper} (he:zcP ops) {i x:Nat} {o:Oper} (ho:ops[i]? =some o) {e:Edge} (h1:e∈o.after) (h2:Region.binds .any e=true) (hx:x=e.on∨(mkOf ops e.on).testBit x=true):
  (mkOf ops i).testBit x=true:=by
 have:=zfV ops.toList [] i x o (by simpa using ho) e (by simpa using h1) h2 (by simpa using he i o ho e h1 h2) (by simpa [mkOf,zdm] using hx);simpa [mkOf,zdm] using this
theorem zoJ {ops:Array Oper} (he:zcP ops): ∀(i x y:Nat),(mkOf ops i).testBit x=true→(mkOf ops x).testBit y=true→(mkOf ops i).testBit y=true:=by
 intro i
 induction i using Nat.strongRecOn with
 | _ i ih=>
  intro x y hx hy;cases ho:ops[i]? with
  | none=>rw [zeZ ho] at hx;cases hx
  | some o=>
   obtain ⟨e,h1,h2,h3⟩:=zdl ops.toList [] i x o (by simpa using ho) (by simpa [mkOf,zdm] using hx);have hlt:=he i o ho e (by simpa using h1) h2;refine zqJ he ho (by simpa using h1) h2 (.inr ?_);rcases h3 with rfl|⟨h3,h4⟩
   ·exact hy
   ·exact ih e.on hlt x y (by simpa [mkOf,zdm] using h4) hy
theorem ziN {ops:Array Oper} {i u x:Nat} (hu:(hsOf ops)[u]? =some x) (hx:(mkOf ops i).testBit x=true):u+1≤stOf ops i:=by
 have:=zfh (m:=mkOf ops i) (hsOf ops) 0 0 u x (Nat.le_refl _) hu hx;unfold stOf;omega
theorem ziM {ops:Array Oper} (i:Nat):stOf ops i=0∨ ∃u x,(hsOf ops)[u]? =some x∧(mkOf ops i).testBit x=true∧stOf ops i=u+1:=by
 rcases zes (m:=mkOf ops i) (hsOf ops) 0 0 (Nat.le_refl _) with h|⟨u,x,h1,h2,h3⟩
 ·exact .inl h
 ·exact .inr ⟨u,x,h1,h2,by unfold stOf;omega⟩
theorem zlp {ops:Array Oper} (he:zcP ops) {i x:Nat} (hx:(mkOf ops i).testBit x=true):stOf ops x≤stOf ops i:=by
 rcases ziM (ops:=ops) x with h|⟨u,y,h1,h2,h3⟩
 ·omega
 ·have:=ziN (i:=i) h1 (zoJ he i x y hx h2);omega
def DD (ops:Array Oper) (s n i:Nat):Prop:=
 ∃ o,ops[i]? =some o∧((zaW o=false∧(stOf ops i<s∨stOf ops i=s∧i<n))∨(zaW o=true∧ ∃u,u<s∧(hsOf ops)[u]? =some i))
theorem zkp {ops:Array Oper} (he:zcP ops) {i x:Nat} (hx:(mkOf ops i).testBit x=true): ∃o,ops[x]? =some o:=by
 have hlt:=zg3 he i x hx;cases ho:ops[i]? with
 | none=>rw [zeZ ho] at hx;cases hx
 | some o=>
  have:=(Array.getElem?_eq_some_iff.1 ho).1;exact ⟨ops[x],Array.getElem?_eq_getElem (by omega)⟩
theorem zr2 {ops:Array Oper} (he:zcP ops) {s n i x:Nat} (h:DD ops s n i) (hx:(mkOf ops i).testBit x=true):DD ops s n x:=by
 obtain ⟨o,ho,h⟩:=h;obtain ⟨ox,hox⟩:=zkp he hx;have hlt:=zg3 he i x hx;refine ⟨ox,hox,?_⟩;cases hh:zaW ox with
 | true=>
  obtain ⟨u,hu⟩:=ze6.2 ⟨ox,hox,hh⟩;refine .inr ⟨rfl,u,?_,hu⟩;rcases h with ⟨_,h⟩|⟨_,v,hv,h⟩
  ·have:=ziN (i:=i) hu hx;omega
  ·have:=zl2 hu h hlt;omega
 | false=>
  refine .inl ⟨rfl,?_⟩;rcases h with ⟨_,h⟩|⟨_,v,hv,h⟩
  ·have:=zlp he hx;omega
  ·rcases ziM (ops:=ops) x with h0|⟨u,y,h1,h2,h3⟩
   ·omega
   ·have:=zg3 he x y h2;have:=zl2 h1 h (by omega);omega
theorem zwf {ops:Array Oper} (he:zcP ops) {s i x:Nat} (hs:stOf ops i=s) (hx:(mkOf ops i).testBit x=true):DD ops s i x:=by
 obtain ⟨ox,hox⟩:=zkp he hx;have hlt:=zg3 he i x hx;refine ⟨ox,hox,?_⟩;cases hh:zaW ox with
 | true=>
  obtain ⟨u,hu⟩:=ze6.2 ⟨ox,hox,hh⟩;have:=ziN (i:=i) hu hx;exact .inr ⟨rfl,u,by omega,hu⟩
 | false=>
  have:=zlp he hx;exact .inl ⟨rfl,by omega⟩
theorem zwc {ops:Array Oper} {s n:Nat} {o:Oper} (ho:ops[n]? =some o) (hv:zaW o=false) (hs:stOf ops n=s) (i:Nat):(DD ops s n i∨i=n)↔DD ops s (n+1) i:=by
 constructor
 ·rintro (⟨o',h1,h2⟩|rfl)
  ·refine ⟨o',h1,h2.imp (fun h=>⟨h.1,?_⟩) id⟩;have:=h.2;omega
  ·exact ⟨o,ho,.inl ⟨hv,by omega⟩⟩
 ·rintro ⟨o',h1,h2|h2⟩
  ·by_cases hi:i=n
   ·exact .inr hi
   ·exact .inl ⟨o',h1,.inl ⟨h2.1,by have:=h2.2;omega⟩⟩
  ·exact .inl ⟨o',h1,.inr h2⟩
theorem zwd {ops:Array Oper} {s n:Nat} {o:Oper} (ho:ops[n]? =some o) (h:zaW o=true∨stOf ops n≠s) (i:Nat):DD ops s n i↔DD ops s (n+1) i:=by
 constructor
 ·rintro ⟨o',h1,h2⟩;refine ⟨o',h1,h2.imp (fun h=>⟨h.1,?_⟩) id⟩;have:=h.2;omega
 ·rintro ⟨o',h1,h2|h2⟩
  ·refine ⟨o',h1,.inl ⟨h2.1,?_⟩⟩;by_cases hi:i=n
   ·subst hi;rw [ho] at h1;cases h1;rcases h with h|h
    ·rw [h] at h2;cases h2.1
    ·have:=h2.2;omega
   ·have:=h2.2;omega
  ·exact ⟨o',h1,.inr h2⟩
theorem zwe {ops:Array Oper} {s n:Nat} (hn:ops.size≤n) (i:Nat):DD ops s n i↔DD ops s ops.size i:=by
 constructor<;>rintro ⟨o',h1,h2⟩<;>have hlt:=(Array.getElem?_eq_some_iff.1 h1).1<;>
  exact ⟨o',h1,h2.imp (fun h=>⟨h.1,by have:=h.2;omega⟩) id⟩
theorem ztH {ops:Array Oper} {s h:Nat} {o:Oper} (hu:(hsOf ops)[s]? =some h) (ho:ops[h]? =some o) (hv:zaW o=true) (i:Nat):(DD ops s ops.size i∨i=h)↔DD ops (s+1) 0 i:=by
 constructor
 ·rintro (⟨o',h1,h2⟩|rfl)
  ·refine ⟨o',h1,h2.imp (fun h=>⟨h.1,by have:=h.2;omega⟩) fun ⟨a,u,b,c⟩=>⟨a,u,by omega,c⟩⟩
  ·exact ⟨o,ho,.inr ⟨hv,s,by omega,hu⟩⟩
 ·rintro ⟨o',h1,h2|⟨h2,u,h3,h4⟩⟩
  ·have hlt:=(Array.getElem?_eq_some_iff.1 h1).1;exact .inl ⟨o',h1,.inl ⟨h2.1,by have:=h2.2;omega⟩⟩
  ·by_cases hus:u=s
   ·subst hus;rw [hu] at h4;cases h4;exact .inr rfl
   ·exact .inl ⟨o',h1,.inr ⟨h2,u,by omega,h4⟩⟩
theorem zqI {ops:Array Oper} {p:PO}:p∈zc9 ops↔ops[p.i]? =some p.o∧p.m=mkOf ops p.i∧p.s=stOf ops p.i:=by
 unfold zc9;rw [zko (by rw [zb3])];constructor
 ·rintro ⟨i,h1,h2,h3,h4⟩;have e:p.i=i:=by omega
  have hm:p.m=mkOf ops i:=by unfold mkOf;rw [List.getD_eq_getElem?_getD,h3];rfl
  rw [e];exact ⟨by simpa using h1,hm,by rw [h4,hm];rfl⟩
 ·rintro ⟨h1,h2,h3⟩;have hlt:=(Array.getElem?_eq_some_iff.1 h1).1;have hm:(zdm ops.toList)[p.i]? =some p.m:=by
   rw [h2];unfold mkOf;rw [List.getD_eq_getElem?_getD,List.getElem?_eq_getElem (by rw [zb3];simpa using hlt)];rfl
  exact ⟨p.i,by simpa using h1,by omega,hm,by rw [h3,h2];rfl⟩
theorem zdZ {ops:Array Oper} {i:Nat} {o:Oper} (h:ops[i]? =some o):(⟨o,i,mkOf ops i,stOf ops i⟩:PO)∈zc9 ops:=zqI.2 ⟨h,rfl,rfl⟩
theorem ziy {ms:List Nat}: ∀ {l:List Nat} {u h h':Nat},chained ms l=true→l[u]? =some h→l[u+1]? =some h'→(ms.getD h' 0).testBit h=true
 | [], u,h,h',_,h1,_=>by simp at h1
 | x::l,u,h,h',hc,h1,h2=>by
  unfold chained at hc;cases l with
  | nil=>simp at h2
  | cons y l=>
   simp only at hc;split at hc
   ·rename_i hb;cases u with
    | zero=>simp at h1 h2;subst h1 h2;exact hb
    | succ u=>exact ziy hc (by simpa using h1) (by simpa using h2)
   ·cases hc
theorem ziq: ∀ {l:List PO},zhr l=true→ ∀p∈l,∀e∈p.o.after,Region.binds .any e=true→e.on<p.i
 | [], _,p,hp,_,_,_=>by cases hp
 | q::l,h,p,hp,e,he,hb=>by
  unfold zhr at h;split at h
  case h_2=>cases h
  rename_i hq;rcases List.mem_cons.1 hp with rfl|hp
  ·have:=List.all_eq_true.1 hq e (by simpa using he);rw [hb] at this;rw [Nat.blt_eq] at this;exact this
  ·exact ziq h p hp e he hb
theorem zq5 {hs:List Nat}: ∀ {l:List Oper} {ms:List Nat} {n:Nat},l.length=ms.length→((posOf hs l ms n).filter fun p=>zaW p.o).map (·.i)=zb9 l n
 | [], ms,n,_=>by simp [posOf,zb9]
 | o::l,[],n,h=>by simp at h
 | o::l,m::ms,n,h=>by
  unfold posOf zb9;rw [List.filter_cons];cases hv:zaW o with
  | true=>simp [hv,zq5 (hs:=hs) (l:=l) (ms:=ms) (n:=n+1) (by simpa using h)]
  | false=>simp [hv,zq5 (hs:=hs) (l:=l) (ms:=ms) (n:=n+1) (by simpa using h)]
theorem znB (ops:Array Oper):(hpOf ops).map (·.i)=hsOf ops:=zq5 (by rw [zb3])
theorem zq6 {ops:Array Oper} {u:Nat} {p:PO} (h:(hpOf ops)[u]? =some p):(hsOf ops)[u]? =some p.i∧ops[p.i]? =some p.o∧p.m=mkOf ops p.i∧zaW p.o=true:=by
 have hm:=List.mem_of_getElem? h;unfold hpOf at hm;rw [List.mem_filter,zqI] at hm;refine ⟨?_,hm.1.1,hm.1.2.1,hm.2⟩;rw [←znB,List.getElem?_map,h];rfl
theorem zey (ops:Array Oper):(hpOf ops).length=(hsOf ops).length:=by rw [←znB];simp
theorem zcA {s hm:Nat} {p:PO}: ∀ {l:List PO},p∈zcy s hm l↔p∈l∧zhg p.o=true∧p.s≤s∧hm.testBit p.i=false
 | [] => by simp [zcy]
 | q::l=>by
  unfold zcy;split
  ·rename_i h1 h2 h3;rw [List.mem_cons,List.mem_cons,zcA];constructor
   ·rintro (rfl|h)
    ·exact ⟨.inl rfl,h1,Nat.le_of_ble_eq_true h2,h3⟩
    ·exact ⟨.inr h.1,h.2⟩
   ·rintro ⟨rfl|h,h'⟩
    ·exact .inl rfl
    ·exact .inr ⟨h,h'⟩
  ·rename_i hne;rw [List.mem_cons,zcA];constructor
   ·rintro ⟨h,h'⟩;exact ⟨.inr h,h'⟩
   ·rintro ⟨rfl|h,h1,h2,h3⟩
    ·exact absurd h3 (hne h1 (by rw [Nat.ble_eq];exact h2))
    ·exact ⟨h,h1,h2,h3⟩
theorem zg2 {o:Oper}: ∀ {l:List PO},o∈zg0 l↔ ∃p∈l,p.o=o
 | [] => by simp [zg0]
 | q::l=>by
  unfold zg0;rw [List.mem_cons,zg2];constructor
  ·rintro (rfl|⟨p,h,rfl⟩)
   ·exact ⟨q,List.mem_cons_self ..,rfl⟩
   ·exact ⟨p,List.mem_cons_of_mem _ h,rfl⟩
  ·rintro ⟨p,h,rfl⟩;rcases List.mem_cons.1 h with rfl|h
   ·exact .inl rfl
   ·exact .inr ⟨p,h,rfl⟩
theorem zfU {ops:Array Oper} {all:List PO}: ∀ {l:List PO} {s u:Nat} {p:PO},zdM ops all s l=true→l[u]? =some p→(zcy (s+u) p.m all).all (ziY ops all (s+u))=true
 | [], s,u,p,_,h=>by simp at h
 | q::l,s,u,p,h,hp=>by
  unfold zdM at h;split at h
  case h_2=>cases h
  rename_i hq;cases u with
  | zero=>simp at hp;subst hp;exact hq
  | succ u=>
   have:=zfU (s:=s+1) (u:=u) (p:=p) h (by simpa using hp);rw [show s+(u+1)=s+1+u by omega];exact this
theorem ziE {l:List Nat} {t:Nat} (h:t∈l):l.any (Nat.beq t)=true:=List.any_eq_true.2 ⟨t,h,Nat.beq_refl t⟩
theorem zke {ops:Array Oper} {l:List zhC} (h:zqs ops=some l):PF ops∧l=zcz (zc9 ops) 0 (hpOf ops):=by
 unfold zqs at h;simp only at h;split at h
 case h_2=>cases h
 rename_i hc;change (chained (zdm ops.toList) (hsOf ops)&&zhr (zc9 ops)&&(zc9 ops).all (zqd ops (zc9 ops))&& !(ops.toList.any zhh)&&zdM ops (zc9 ops) 0 (hpOf ops))=true at hc;rw [Bool.and_eq_true,Bool.and_eq_true,Bool.and_eq_true,Bool.and_eq_true] at hc;obtain ⟨⟨⟨⟨c1,c2⟩,c3⟩,c4⟩,c5⟩:=hc;refine ⟨⟨fun i o ho e he hb=>ziq c2 _ (zdZ ho) e he hb,fun u h h' h1 h2=>ziy c1 h1 h2,fun p q o oq t hp hq hd ht=> ?_,fun p q o oq t hne hp hq hd hdq=> ?_,fun p o hp=> ?_,fun u h p q o oq t hu hp hl hs hb hq hd ht=> ?_⟩,(Option.some.inj h).symm⟩
 ·have:=List.all_eq_true.1 (List.all_eq_true.1 c3 _ (zdZ hp)) _ (zdZ hq);simp only [hd,ziE ht] at this;cases hb:(mkOf ops p).testBit q with
  | true=>exact .inl rfl
  | false=>
   cases hb':(mkOf ops q).testBit p with
   | true=>exact .inr rfl
   | false=>simp [hb,hb'] at this
 ·have:=List.all_eq_true.1 (List.all_eq_true.1 c3 _ (zdZ hp)) _ (zdZ hq);simp only [hdq,hd] at this;have e1:Nat.beq p q=false:=by cases e:Nat.beq p q with
   | false=>rfl
   | true=>exact absurd (Nat.eq_of_beq_eq_true e) hne
  split at this
  ·cases this
  ·simp [e1] at this
 ·have:=c4;simp only [Bool.not_eq_true',List.any_eq_false] at this;have:=this o (by have:=Array.mem_of_getElem? hp;simpa using this);simpa using this
 ·obtain ⟨hlt,_⟩:=List.getElem?_eq_some_iff.1 hu;rw [←zey] at hlt;have hpo:(hpOf ops)[u]? =some (hpOf ops)[u]:=List.getElem?_eq_getElem hlt;obtain ⟨g1,g2,g3,g4⟩:=zq6 hpo;rw [hu] at g1;have e:h=(hpOf ops)[u].i:=Option.some.inj g1;have hall:=zfU c5 hpo;rw [Nat.zero_add,g3,←e] at hall;have:=List.all_eq_true.1 hall ⟨o,p,mkOf ops p,stOf ops p⟩ (zcA.2 ⟨zdZ hp,hl,hs,hb⟩);unfold ziY at this;have:=List.all_eq_true.1 this _ (zdZ hq);simp only [hd,ziE ht] at this;cases hb:(mkOf ops p).testBit q with
  | true=>exact .inl rfl
  | false=>
   cases hb':Nat.blt u (stOf ops q) with
   | true=>rw [Nat.blt_eq] at hb';exact .inr hb'
   | false=>simp [hb,hb'] at this
theorem zgC {ops:Array Oper} (he:zcP ops) {v x:Nat} (hv:(hsOf ops)[v]? =some x):stOf ops x≤v:=by
 rcases ziM (ops:=ops) x with h|⟨u,y,h1,h2,h3⟩
 ·omega
 ·have:=zl2 h1 hv (zg3 he x y h2);omega
section
variable {P:Program} {ρ:Val} {w0:Cx} {j:J} {H:Heap} {w:World} {N:Nat} {env:T AV} {a:Act} {o:Oper} {ops:Array Oper} {Q:Exit→Act→World→Prop}
theorem count_set {listed:Array Bool} {i:Nat} (h:listed.getD i true=false):(listed.setIfInBounds i true).count false+1=listed.count false:=by
 have hlt:i<listed.size:=by
  apply Classical.byContradiction;intro hn;rw [Array.getD_eq_getD_getElem?,Array.getElem?_eq_none (by omega)] at h;cases h
 have hf:listed[i]=false:=by
  rw [Array.getD_eq_getD_getElem?,Array.getElem?_eq_getElem hlt] at h;exact h
 have hpos:0<listed.count false:=Array.count_pos_iff.2 (by rw [←hf];exact Array.getElem_mem hlt);rw [Array.setIfInBounds_def,dif_pos hlt,Array.count_set];simp [hf];omega
end
end Go.Dw
namespace Go.Dw
def GV (ρ:Val):G→Bool→Prop
 | .yes,g=>g=true
 | .no,g=>g=false
 | .test _ b want,g=>(b.den ρ==want)=g
 | .none,_=>False
def zms (N:Nat) (env:T AV) (o:Oper) (v:AV):Prop:= ∀d,o.dst=some d→d<N∧env.get d=some v
section
variable {P:Program} {ρ:Val} {w0:Cx} {ops:Array Oper} {N:Nat} {env0:T AV} {H0:Heap} {j0:J}
variable {D listed:Nat→Prop} {envS env env':T AV} {j j':J} {H H':Heap} {w w':World} {a:Act} {nm nm':Nat→Option Nat} {rec:Task→Ob} {n:Nat} {Q:Exit→Act→World→Prop}
theorem zvp {x:Operand} (h: ∀t,x= .tmp t→env.get t=env'.get t):opd env x=opd env' x:=by
 cases x with
 | tmp t=>simp only [opd];rw [h t rfl]
 | _=>rfl
theorem zfo {o:Oper} (h: ∀t∈looks ops o,env.get t=env'.get t): ∀x∈o.op.operands,opd env x=opd env' x:=fun x hx=>zvp fun t e=>h t (by
 subst e;unfold looks;exact List.mem_append_left _ (List.mem_filterMap.2 ⟨.tmp t,by simpa using hx,rfl⟩))
theorem zdR {o:Oper} (h: ∀t∈looks ops o,env.get t=env'.get t):zb4 ops env o=zb4 ops env' o:=by
 unfold zb4;cases hg:o.guard with
 | none=>rfl
 | some gw=>
  obtain ⟨i,want⟩:=gw;simp only;cases hi:ops[i]? with
  | none=>rfl
  | some oj=>
   simp only;cases hd:oj.dst with
   | none=>rfl
   | some t=>
    simp only;rw [h t (by unfold looks;refine List.mem_append_right _ ?_;simp [hg,hi,hd])]
theorem zkI (he:ER ρ j N env a) {o:Oper} {g:Bool} (h:GV ρ (zb4 ops env o) g):Region.wanted o (yielded ops a.tmps)=g:=by
 have hs:=zhi he ops o;cases hG:zb4 ops env o with
 | yes=>rw [hG] at h hs;have h:g=true:=h;rw [h];exact hs
 | no=>rw [hG] at h hs;have h:g=false:=h;rw [h];exact hs
 | none=>rw [hG] at h;exact h.elim
 | test t b want=>
  rw [hG] at h hs;have hb:=(zgF he hs).2;have h:(b.den ρ==want)=g:=h;unfold zb4 at hG;split at hG
  ·cases hG
  rename_i i want' hg;split at hG
  ·cases hG
  rename_i oj hi;split at hG
  ·cases hG
  rename_i t' hd;split at hG
  ·cases hG
  ·split at hG<;>cases hG
  ·split at hG<;>cases hG
  ·cases hG;unfold Region.wanted;rw [hg];simp only [yielded,hi,Option.bind_some,hd,hb];rw [←h];cases b.den ρ<;>cases want<;>rfl
  ·cases hG
  ·cases hG
  ·cases hG
def Told (ρ:Val) (l:List (SB×Bool)):Prop:= ∀c∈l,c.1.den ρ=c.2
theorem zcG {ρ:Val} {c:SB}: ∀ {l:List (SB×Bool)} {b:Bool},Told ρ l→zeI c l=some b→c.den ρ=b
 | [], _,_,h=>by cases h
 | p::l,b,ht,h=>by
  unfold zeI at h;split at h
  ·rename_i he;cases h;rw [SB.eqv_eq he];exact ht p (by simp)
  ·exact zcG (fun c hc=>ht c (by simp [hc])) h
theorem zgA {ρ:Val} {l:List (SB×Bool)} {c:SB} {b:Bool} (h:Told ρ l) (hc:c.den ρ=b):Told ρ ((c,b)::l):=fun x hx=>by
 rcases List.mem_cons.1 hx with rfl|hx
 ·exact hc
 ·exact h x hx
def zwa (ρ:Val) (z:AV):Prop:= ∀j,R ρ j z undef
theorem zxe {ρ:Val} {G:G} {a b:Bool} (h:GV ρ G a) (k:GV ρ G b):a=b:=by
 cases G with
 | yes=>exact Eq.trans (show a=true from h) (show b=true from k).symm
 | no=>exact Eq.trans (show a=false from h) (show b=false from k).symm
 | test t c want=>exact Eq.trans (show (c.den ρ==want)=a from h).symm k
 | none=>exact h.elim
theorem zkJ {fs:List (SB×Bool)} (hf:Told ρ fs) {o:Oper}:(ze7 fs ops env o= .yes→GV ρ (zb4 ops env o) true)∧(ze7 fs ops env o= .no→GV ρ (zb4 ops env o) false∧zwa ρ (zvs ops env o))∧
  (∀ t b want,ze7 fs ops env o= .test t b want→zb4 ops env o= .test t b want):=by
 unfold ze7 zvs;cases hG:zb4 ops env o with
 | yes=>exact ⟨fun _=>rfl,fun h=>by (simp at h),fun _ _ _ h=>by (simp at h)⟩
 | no=>exact ⟨fun h=>by (simp at h),fun _=>⟨rfl,fun j=>zcv⟩,fun _ _ _ h=>by (simp at h)⟩
 | none=>exact ⟨fun h=>by (simp at h),fun h=>by (simp at h),fun _ _ _ h=>by (simp at h)⟩
 | test t b want=>
  simp only;split
  ·rename_i ht;have hb:=zcG hf ht;cases want with
   | true=>exact ⟨fun _=>by (show (b.den ρ==true)=true;rw [hb];rfl),fun h=>by (simp at h),fun _ _ _ h=>by (simp at h)⟩
   | false=>exact ⟨fun h=>by (simp at h),fun _=>⟨by (show (b.den ρ==false)=false;rw [hb];rfl),fun j=>(show undef=undef∧b.den ρ= !_ from ⟨rfl,hb⟩)⟩,fun _ _ _ h=>by (simp at h)⟩
  ·rename_i ht;have hb:=zcG hf ht;cases want with
   | true=>exact ⟨fun h=>by (simp at h),fun _=>⟨by (show (b.den ρ==true)=false;rw [hb];rfl),fun j=>(show undef=undef∧b.den ρ= !_ from ⟨rfl,hb⟩)⟩,fun _ _ _ h=>by (simp at h)⟩
   | false=>exact ⟨fun _=>by (show (b.den ρ==false)=true;rw [hb];rfl),fun h=>by (simp at h),fun _ _ _ h=>by (simp at h)⟩
  ·exact ⟨fun h=>by (simp at h),fun h=>by (simp at h),fun _ _ _ h=>h⟩
theorem zgT {o:Oper} {k:T AV→Heap→Ob} {rest:List zhC} {fs:List (SB×Bool)} (hf:Told ρ fs) (h:Ob.den ρ (zaM P rec ops N k (.run o::rest) fs env H)):
  ∃ g z fs',GV ρ (zb4 ops env o) g∧(g=false→zwa ρ z)∧Told ρ fs'∧Ob.den ρ (zkd P rec o N (zaM P rec ops N k rest fs') env H g z):=by
 obtain ⟨e1,e2,e3⟩:=zkJ (ops:=ops) (env:=env) hf (o:=o);unfold zaM at h;cases hG:ze7 fs ops env o with
 | yes=>rw [hG] at h;exact ⟨true,_,fs,e1 hG,(fun hh=>by cases hh),hf,h⟩
 | no=>rw [hG] at h;exact ⟨false,_,fs,(e2 hG).1,fun _=>(e2 hG).2,hf,h⟩
 | none=>rw [hG] at h;exact h.elim
 | test t b want=>
  rw [hG] at h;rw [e3 _ _ _ hG];obtain ⟨h1,h2⟩:=h;cases hb:b.den ρ with
  | true=>exact ⟨want,.nun b want,_,by show (b.den ρ==want)=want;rw [hb];cases want<;>rfl,fun hw j=>(show undef=undef∧b.den ρ= !want from ⟨rfl,by rw [hb,hw];rfl⟩),zgA hf hb,h1 hb⟩
  | false=>
   cases want with
   | true=>exact ⟨false,.nun b true,_,by show (b.den ρ==true)=false;rw [hb];rfl,fun _ j=>(show undef=undef∧b.den ρ= !true from ⟨rfl,by rw [hb];rfl⟩),zgA hf hb,h2 hb⟩
   | false=>exact ⟨true,_,_,by show (b.den ρ==false)=true;rw [hb];rfl,(fun hh=>by cases hh),zgA hf hb,h2 hb⟩
theorem zlF {os:List Oper} {k:T AV→Heap→Ob} {rest:List zhC} {fs:List (SB×Bool)} (h:Ob.den ρ (zaM P rec ops N k (.chk os::rest) fs env H)):
  chkA P fs ops env H os=true∧Ob.den ρ (zaM P rec ops N k rest fs env H):=by
 unfold zaM at h;split at h
 ·rename_i hc;exact ⟨hc,h⟩
 ·exact h.elim
theorem zgl {dst:Option Tmp} {v:AV} {kk:T AV→Ob} (h:Ob.den ρ (putA dst N env v kk)):
  ∃ env',Ob.den ρ (kk env')∧(∀d,dst=some d→d<N∧env'.get d=some v)∧(∀t,dst≠some t→env'.get t=env.get t):=by
 unfold putA at h;split at h
 ·exact ⟨env,h,⟨fun d e=>(by cases e),fun _ _=>rfl⟩⟩
 ·rename_i d;split at h
  ·rename_i hb;rw [Nat.blt_eq] at hb;refine ⟨_,h,fun d' e=> ?_,fun t ht=> ?_⟩
   ·cases e;exact ⟨hb,by rw [T.get_set,if_pos rfl]⟩
   ·rw [T.get_set,if_neg (fun e=>ht (by rw [e]))]
  ·exact h.elim
theorem zrz {fs:List (SB×Bool)}: ∀ {os:List Oper},chkA P fs ops env H os=true→ ∀o∈os,ze7 fs ops env o= .no∨(ze7 fs ops env o= .yes∧ ∃v,light P o.op env H=some v∧ ∀d,o.dst=some d→env.get d=some v)
 | [], _,o,ho=>by cases ho
 | q::os,h,o,ho=>by
  unfold chkA at h;have hrest:chkA P fs ops env H os=true:=by
   split at h
   ·exact h
   ·split at h
    ·split at h
     ·split at h
      ·exact h
      ·cases h
     ·cases h
    ·exact h
    ·cases h
   ·cases h
  rcases List.mem_cons.1 ho with rfl|ho
  ·split at h
   ·rename_i hg;exact .inl hg
   ·rename_i hg;refine .inr ⟨hg,?_⟩;split at h
    ·rename_i v d hl hd;split at h
     ·rename_i u hu;split at h
      ·rename_i hb;refine ⟨v,hl,fun d' e=> ?_⟩;rw [hd] at e;cases e;rw [hu,AV.beq_eq hb]
      ·cases h
     ·cases h
    ·rename_i v hl hd;exact ⟨v,hl,fun d' e=>by rw [hd] at e;cases e⟩
    ·cases h
   ·cases h
  ·exact zrz hrest o ho
theorem ER.putS (he:ER ρ j N envS a) {o:Oper} {v:AV} {u:Value} (hR:R ρ j v u) (hd: ∀d,o.dst=some d→d<N):
  ∃ envS',ER ρ j N envS' (a.put o.dst u)∧(∀d,o.dst=some d→envS'.get d=some v)∧(∀t,o.dst≠some t→envS'.get t=envS.get t):=by
 cases hdst:o.dst with
 | none=>exact ⟨envS,he,⟨fun d e=>(by cases e),fun _ _=>rfl⟩⟩
 | some d=>
  refine ⟨envS.set d v,he.put (hd d hdst) hR,fun d' e=> ?_,fun t ht=> ?_⟩
  ·cases e;rw [T.get_set,if_pos rfl]
  ·rw [T.get_set,if_neg (fun e=>ht (by rw [e]))]
def Done (P:Program) (ρ:Val) (N:Nat) (H0:Heap) (env envR:T AV) (H:Heap) (j:J) (nm:Option Nat) (o:Oper) (g:Bool):Prop:=
 (g=true∧zfD o.op= .light∧ ∃v,light P o.op envR H=some v∧zms N env o v)∨
 (g=true∧zfD o.op= .alloc∧ ∃v ob nx,nm=some nx∧zcu P o.op envR nx=some (v,ob)∧H.m.get nx=some ob∧j nx=none∧H0.nx≤nx∧zms N env o v)∨
 (g=false∧ ∃z,zwa ρ z∧zms N env o z)
def zr1 (ops:Array Oper) (env0 env envR:T AV) (i:Nat) (o:Oper):Prop:=
 ∀ t∈looks ops o,(∀q oq,(mkOf ops i).testBit q=true→ops[q]? =some oq→oq.dst=some t→envR.get t=env.get t)∧
  ((∀ q oq,(mkOf ops i).testBit q=true→ops[q]? =some oq→oq.dst≠some t)→envR.get t=env0.get t)
def zxc (P:Program) (ρ:Val) (ops:Array Oper) (N:Nat) (env0:T AV) (H0:Heap) (env:T AV) (H:Heap) (j:J) (nm:Option Nat) (i:Nat) (o:Oper):Prop:=
 ∃ envR g,GV ρ (zb4 ops envR o) g∧zr1 ops env0 env envR i o∧Done P ρ N H0 env envR H j nm o g
theorem zk9 (op:Op) (env:T AV) (nx:Nat) (v:AV) (k:Nat):zcu P op env nx≠some (v,.gs k):=fun h=>by
 cases op<;>simp only [zcu,aNo] at h<;>try cases h
 case alloc=>unfold zld zbZ at h;split at h<;>cases h
 case box=>unfold aBox zbZ at h;split at h<;>cases h
 case buildSlice=>unfold zbW zbZ at h;(repeat' split at h)<;>cases h
 case makeMap=>unfold zei at h;(repeat' split at h)<;>cases h
 case makeSlice=>unfold zck at h;(repeat' split at h)<;>cases h
structure CI (P:Program) (ρ:Val) (w0:Cx) (ops:Array Oper) (N:Nat) (env0:T AV) (H0:Heap) (j0:J) (D listed:Nat→Prop) (envS env:T AV) (j:J) (H:Heap) (w:World) (nm:Nat→Option Nat):Prop where
 inv:Inv ρ w0 j H w
 st:St j0 H0 j H
 sub: ∀i,listed i→D i
 e0: ∀t,(∀i o,D i→ops[i]? =some o→o.dst≠some t)→env.get t=env0.get t
 s0: ∀t,(∀i o,listed i→ops[i]? =some o→o.dst≠some t)→envS.get t=env0.get t
 s1: ∀t i o,listed i→ops[i]? =some o→o.dst=some t→envS.get t=env.get t
 recd: ∀i o,D i→ ¬listed i→ops[i]? =some o→zxc P ρ ops N env0 H0 env H j (nm i) i o
 bnd: ∀i nx,nm i=some nx→nx<H.nx
 inj: ∀i i' nx,nm i=some nx→nm i'=some nx→i=i'
theorem CI.congr {D':Nat→Prop} (h: ∀i,D i↔D' i) (ci:CI P ρ w0 ops N env0 H0 j0 D listed envS env j H w nm):CI P ρ w0 ops N env0 H0 j0 D' listed envS env j H w nm:=by
 have e:D=D':=funext fun i=>propext (h i);rw [←e];exact ci
theorem CI.put (pf:PF ops) (ci:CI P ρ w0 ops N env0 H0 j0 D listed envS env j H w nm) {p:Nat} {o:Oper} (ho:ops[p]? =some o) (hp: ¬D p)
  (hcl: ∀i x,D i→(mkOf ops i).testBit x=true→D x) (hinv:Inv ρ w0 j H' w) (hst:St j0 H0 j H') (hext:Ext H H') (hnx:H.nx≤H'.nx)
  (henv: ∀t,o.dst≠some t→env'.get t=env.get t) (hnm: ∀i,i≠p→nm' i=nm i) (hbnd: ∀i nx,nm' i=some nx→nx<H'.nx) (hinj: ∀i i' nx,nm' i=some nx→nm' i'=some nx→i=i')
  (hrec:zr1 ops env0 env' env p o→zxc P ρ ops N env0 H0 env' H' j (nm' p) p o) (hm: ∀x,(mkOf ops p).testBit x=true→D x):
  CI P ρ w0 ops N env0 H0 j0 (fun x=>D x∨x=p) listed envS env' j H' w nm':=by
 have hne: ∀i,D i→i≠p:=fun i hi e=>hp (e▸hi);have hkeep: ∀i oi t,D i→ops[i]? =some oi→oi.dst=some t→env'.get t=env.get t:=fun i oi t hi hoi hd=>
  henv t (pf.dsts i p oi o t (hne i hi) hoi ho hd)
 refine ⟨hinv,hst,fun i hi=> .inl (ci.sub i hi),fun t ht=> ?_,ci.s0,fun t i oi hi hoi hd=> ?_,fun i oi hi hl hoi=> ?_,hbnd,hinj⟩
 ·rw [henv t (ht p o (.inr rfl) ho)];exact ci.e0 t fun i oi hi hoi=>ht i oi (.inl hi) hoi
 ·rw [ci.s1 t i oi hi hoi hd,hkeep i oi t (ci.sub i hi) hoi hd]
 ·by_cases hip:i=p
  ·subst hip;rw [ho] at hoi;cases hoi;refine hrec fun t ht=>⟨fun q oq hq hoq hd=>(hkeep q oq t (hm q hq) hoq hd).symm,fun hno=>ci.e0 t fun q oq hq hoq hd=> ?_⟩;rcases pf.reads i q o oq t ho hoq hd ht with h|h
   ·exact hno q oq h hoq hd
   ·exact hp (hcl q i hq h)
  ·have hDi:D i:=hi.resolve_right hip;obtain ⟨envR,g,h1,h2,h3⟩:=ci.recd i oi hDi hl hoi;have hdst: ∀v,zms N env oi v→zms N env' oi v:=fun v hv d hd=>⟨(hv d hd).1,by rw [hkeep i oi d hDi hoi hd];exact (hv d hd).2⟩;refine ⟨envR,g,h1,fun t ht=>⟨fun q oq hq hoq hd=> ?_,(h2 t ht).2⟩,?_⟩
   ·rw [(h2 t ht).1 q oq hq hoq hd,hkeep q oq t (hcl i q hDi hq) hoq hd]
   ·rw [hnm i hip];rcases h3 with ⟨g1,g2,v,g3,g4⟩|⟨g1,g2,v,ob,nx,g3,g4,g5,g6,g7,g8⟩|⟨g1,g2⟩
    ·exact .inl ⟨g1,g2,v,zoN hext g3,hdst v g4⟩
    ·exact .inr (.inl ⟨g1,g2,v,ob,nx,g3,g4,hext.m _ _ g5,g6,g7,hdst v g8⟩)
    ·exact (.inr (.inr ⟨g1,g2.elim fun z hz=>⟨z,hz.1,hdst _ hz.2⟩⟩))
theorem zrj {o:Obj} (hi:Inv ρ w0 j H w):Ext H (H.alloc o):=by
 rw [Heap.alloc_eq];refine ⟨fun n o' h=> ?_,rfl⟩;have:=hi.used n o' h;show (H.m.set H.nx o).get n=_;rw [T.get_set,if_neg (by omega)];exact h
theorem zqP {o:Oper} (h:zfD o.op= .light):zhg o=true:=by unfold zhg;rw [h]
theorem zrp {o:Oper} (h:zaW o=true) (hd:zhh o=false):zfD o.op= .heavy:=by
 unfold zaW at h;unfold zhh at hd;cases hc:zfD o.op<;>rw [hc] at h hd<;>first|rfl|exact absurd hd Bool.noConfusion|exact absurd h Bool.noConfusion
theorem zro {o:Oper} (h:zaW o=false):zfD o.op= .light∨zfD o.op= .alloc:=by
 unfold zaW at h;cases hc:zfD o.op<;>rw [hc] at h<;>first|exact .inl rfl|exact .inr rfl|exact absurd h (by simp)
theorem zk8 {op:Op} {nx:Nat} {v:AV} {ob:Obj} (h:zcu P op env nx=some (v,ob)): ∀v' e g t sh ow,ob≠ .cells v' e g (some t) sh ow:=by
 intro v' e g t sh ow hob;subst hob;cases op<;>simp only [zcu,aNo] at h<;>try (cases h;done)
 case alloc t'=>unfold zld zbZ at h;split at h<;>cases h
 case box t' x=>unfold aBox zbZ at h;split at h<;>cases h
 case buildSlice t' len parts=>
  unfold zbW zbZ at h;split at h
  ·split at h
   ·split at h
    ·split at h<;>cases h
    ·cases h
   ·cases h
  ·cases h
 case makeMap t' r=>
  unfold zei at h;split at h
  ·cases h
  ·split at h<;>cases h
 case makeSlice t' l c=>
  unfold zck at h;split at h
  ·split at h
   ·split at h
    ·split at h<;>cases h
    ·cases h
   ·cases h
  ·cases h
theorem CI.cstep (pf:PF ops) (ci:CI P ρ w0 ops N env0 H0 j0 D listed envS env j H w nm) {p:Nat} {o:Oper} (ho:ops[p]? =some o) (hv:zaW o=false) (hp: ¬D p)
  (hcl: ∀i x,D i→(mkOf ops i).testBit x=true→D x) (hm: ∀x,(mkOf ops p).testBit x=true→D x) {k:T AV→Heap→Ob} {rest:List zhC}
  {fs:List (SB×Bool)} (hf:Told ρ fs) (h:Ob.den ρ (zaM P rec ops N k (.run o::rest) fs env H)):
  ∃ env' H' nm' fs',CI P ρ w0 ops N env0 H0 j0 (fun x=>D x∨x=p) listed envS env' j H' w nm'∧Told ρ fs'∧Ob.den ρ (zaM P rec ops N k rest fs' env' H'):=by
 obtain ⟨g,z,fs',hg,hz,hf',hd⟩:=zgT hf h;cases g with
 | false=>
  obtain ⟨env',h1,h2,h3⟩:=zgl (kk:=fun env'=>zaM P rec ops N k rest fs' env' H) hd;exact ⟨env',H,nm,fs',ci.put pf ho hp hcl ci.inv ci.st (Ext.refl H) (Nat.le_refl _) h3 (fun _ _=>rfl) ci.bnd ci.inj (fun hl=>⟨env,false,hg,hl,.inr (.inr ⟨rfl,z,hz rfl,h2⟩)⟩) hm,hf',h1⟩
 | true=>
  have hd:Ob.den ρ (doOp P rec o env H fun env v H=>putA o.dst N env v fun env'=>zaM P rec ops N k rest fs' env' H):=hd;unfold doOp at hd;rcases zro hv with hc|hc
  ·rw [hc] at hd;have hd:Ob.den ρ (okL o H (fun v H=>putA o.dst N env v fun env'=>zaM P rec ops N k rest fs' env' H) (light P o.op env H)):=hd;cases hl:light P o.op env H with
   | none=>rw [hl] at hd;exact hd.elim
   | some v=>
    rw [hl] at hd;obtain ⟨env',h1,h2,h3⟩:=zgl (kk:=fun env'=>zaM P rec ops N k rest fs' env' H) hd;exact ⟨env',H,nm,fs',ci.put pf ho hp hcl ci.inv ci.st (Ext.refl H) (Nat.le_refl _) h3 (fun _ _=>rfl) ci.bnd ci.inj (fun hlk=>⟨env,true,hg,hlk,.inl ⟨rfl,hc,v,hl,h2⟩⟩) hm,hf',h1⟩
  ·rw [hc] at hd;have hd:Ob.den ρ (okA o H (fun v H=>putA o.dst N env v fun env'=>zaM P rec ops N k rest fs' env' H) (zcu P o.op env H.nx)):=hd;cases hl:zcu P o.op env H.nx with
   | none=>rw [hl] at hd;exact hd.elim
   | some q=>
    obtain ⟨v,ob⟩:=q;rw [hl] at hd;obtain ⟨env',h1,h2,h3⟩:=zgl (kk:=fun env'=>zaM P rec ops N k rest fs' env' (H.alloc ob)) hd;have hnx:(H.alloc ob).nx=H.nx+1:=by rw [Heap.alloc_eq]
    have hinv:Inv ρ w0 j (H.alloc ob) w:=ci.inv.extend ob (fun v' e g t sh ow hob=>absurd hob (zk8 hl v' e g t sh ow));refine ⟨env',H.alloc ob,fun i=>if i=p then some H.nx else nm i,fs',ci.put pf ho hp hcl hinv (ci.st.trans (St.extend ci.inv ob)) (zrj ci.inv) (by omega) h3 (fun i hi=>if_neg hi) (fun i nx hi=> ?_) (fun i i' nx h1 h2=> ?_) (fun hlk=>⟨env,true,hg,hlk,.inr (.inl ⟨rfl,hc,v,ob,H.nx,if_pos rfl,hl,?_,ci.inv.fresh,ci.st.nx,h2⟩)⟩) hm,hf',h1⟩
    ·by_cases hip:i=p
     ·rw [if_pos hip] at hi;cases hi;omega
     ·rw [if_neg hip] at hi;have:=ci.bnd i nx hi;omega
    ·by_cases hip:i=p<;>by_cases hip':i'=p
     ·rw [hip,hip']
     ·rw [if_pos hip] at h1;rw [if_neg hip'] at h2;cases h1;exact absurd (ci.bnd i' _ h2) (Nat.lt_irrefl _)
     ·rw [if_neg hip] at h1;rw [if_pos hip'] at h2;cases h2;exact absurd (ci.bnd i _ h1) (Nat.lt_irrefl _)
     ·rw [if_neg hip] at h1;rw [if_neg hip'] at h2;exact ci.inj i i' nx h1 h2
    ·rw [Heap.alloc_eq];show (H.m.set H.nx ob).get H.nx=_;rw [T.get_set,if_pos rfl]
theorem zeL (pf:PF ops) {k:T AV→Heap→Ob} {rest:List zhC} {s:Nat}: ∀(l:List Oper) (ms:List Nat) (n:Nat) (fs:List (SB×Bool)) (env:T AV) (H:Heap) (nm:Nat→Option Nat),Told ρ fs→l=ops.toList.drop n→ms=(zdm ops.toList).drop n→
  CI P ρ w0 ops N env0 H0 j0 (DD ops s n) listed envS env j H w nm→Ob.den ρ (zaM P rec ops N k (zgM s (posOf (hsOf ops) l ms n)++rest) fs env H)→
  ∃ env' H' nm' fs',CI P ρ w0 ops N env0 H0 j0 (DD ops s ops.size) listed envS env' j H' w nm'∧Told ρ fs'∧Ob.den ρ (zaM P rec ops N k rest fs' env' H')
 | [], ms,n,fs,env,H,nm,hf,hl,hms,ci,h=>by
  have hn:ops.size≤n:=by have:=hl.symm;rw [List.drop_eq_nil_iff] at this;simpa using this
  have e:posOf (hsOf ops) [] ms n= []:=by simp [posOf]
  rw [e] at h;exact ⟨env,H,nm,fs,ci.congr (zwe hn),hf,h⟩
 | o::l,ms,n,fs,env,H,nm,hf,hl,hms,ci,h=>by
  have ho:ops[n]? =some o:=by
   have:=congrArg (·[0]?) hl;simp only [List.getElem?_cons_zero,List.getElem?_drop,Nat.add_zero] at this;simpa using this.symm
  have hlt:=(Array.getElem?_eq_some_iff.1 ho).1;have hl':l=ops.toList.drop (n+1):=by
   have:=congrArg List.tail hl;simpa using this
  cases hmse:ms with
  | nil=>
   rw [hmse] at hms;have:=hms.symm;rw [List.drop_eq_nil_iff,zb3] at this;simp at this;omega
  | cons m ms'=>
   rw [hmse] at hms h;have hm:m=mkOf ops n:=by
    have:=congrArg (·[0]?) hms;simp only [List.getElem?_cons_zero,List.getElem?_drop,Nat.add_zero] at this;unfold mkOf;rw [List.getD_eq_getElem?_getD,←this];rfl
   have hms':ms'=(zdm ops.toList).drop (n+1):=by
    have:=congrArg List.tail hms;simpa using this
   unfold posOf at h;unfold zgM at h;have hst:zbO m (hsOf ops) 0 0=stOf ops n:=by rw [hm];rfl
   simp only [hst] at h;split at h
   ·rename_i hv hs;have hs:=Nat.eq_of_beq_eq_true hs;have hnD: ¬DD ops s n n:=by
     rintro ⟨o',h1,h2⟩;rw [ho] at h1;cases h1;rcases h2 with ⟨_,h2⟩|⟨h2,_⟩
     ·omega
     ·rw [hv] at h2;cases h2
    obtain ⟨env',H',nm',fs',h1,hf',h2⟩:=ci.cstep pf ho hv hnD (fun i x hi hx=>zr2 pf.edges hi hx) (fun x hx=>zwf pf.edges hs hx) hf h;exact zeL pf l ms' (n+1) fs' env' H' nm' hf' hl' hms' (h1.congr (zwc ho hv hs)) h2
   ·rename_i hne;refine zeL pf l ms' (n+1) fs env H nm hf hl' hms' (ci.congr (zwd ho ?_)) h;cases hv:zaW o with
    | true=>exact .inl rfl
    | false=>exact .inr fun e=>hne hv (by rw [e];exact Nat.beq_refl s)
theorem CI.list (pf:PF ops) (ci:CI P ρ w0 ops N env0 H0 j0 D listed envS env j H w nm) {i:Nat} {o:Oper} {envS':T AV} (ho:ops[i]? =some o) (hD:D i)
  (hinv:Inv ρ w0 j' H w') (hst:St j0 H0 j' H) (hd: ∀d,o.dst=some d→envS'.get d=env.get d) (hn: ∀t,o.dst≠some t→envS'.get t=envS.get t)
  (hj: ∀i' nx,i'≠i→nm i'=some nx→j nx=none→j' nx=none):
  CI P ρ w0 ops N env0 H0 j0 D (fun x=>listed x∨x=i) envS' env j' H w' nm:=by
 refine ⟨hinv,hst,fun x hx=>hx.elim (ci.sub x) fun e=>e▸hD,ci.e0,fun t ht=> ?_,fun t x ox hx hox hdx=> ?_,fun x ox hx hl hox=> ?_,ci.bnd,ci.inj⟩
 ·rw [hn t (ht i o (.inr rfl) ho)];exact ci.s0 t fun x ox hx hox=>ht x ox (.inl hx) hox
 ·by_cases hxi:x=i
  ·subst hxi;rw [ho] at hox;cases hox;exact hd t hdx
  ·rw [hn t (pf.dsts x i ox o t hxi hox ho hdx)];exact ci.s1 t x ox (hx.resolve_right hxi) hox hdx
 ·have hxi:x≠i:=fun e=>hl (.inr e);obtain ⟨envR,g,h1,h2,h3⟩:=ci.recd x ox hx (fun h=>hl (.inl h)) hox;refine ⟨envR,g,h1,h2,?_⟩;rcases h3 with h3|⟨g1,g2,v,ob,nx,g3,g4,g5,g6,g7,g8⟩|h3
  ·exact .inl h3
  ·exact .inr (.inl ⟨g1,g2,v,ob,nx,g3,g4,g5,hj x nx hxi g3 g6,g7,g8⟩)
  ·exact .inr (.inr h3)
theorem CI.late (pf:PF ops) (ci:CI P ρ w0 ops N env0 H0 j0 D listed envS env j H w nm) (he:ER ρ j N envS a) {i:Nat} {o:Oper} (ho:ops[i]? =some o) (hD:D i) (hl: ¬listed i)
  (hm: ∀x,(mkOf ops i).testBit x=true→listed x) (hlc: ∀q x,listed q→(mkOf ops q).testBit x=true→listed x) {K:Act→World→Prop}
  (hK: ∀envS' j' a' w',CI P ρ w0 ops N env0 H0 j0 D (fun x=>listed x∨x=i) envS' env j' H w' nm→ER ρ j' N envS' a'→K a' w'):wpOp P ops Q i K a w:=by
 obtain ⟨envR,g,hg,hlook,hdone⟩:=ci.recd i o hD hl ho;have hag: ∀t∈looks ops o,envS.get t=envR.get t:=fun t ht=>by
  by_cases hw: ∃q oq,(mkOf ops i).testBit q=true∧ops[q]? =some oq∧oq.dst=some t
  ·obtain ⟨q,oq,h1,h2,h3⟩:=hw;rw [ci.s1 t q oq (hm q h1) h2 h3,(hlook t ht).1 q oq h1 h2 h3]
  ·rw [(hlook t ht).2 (fun q oq h1 h2 h3=>hw ⟨q,oq,h1,h2,h3⟩)];refine ci.s0 t fun q oq h1 h2 h3=> ?_;rcases pf.reads i q o oq t ho h2 h3 ht with h4|h4
   ·exact hw ⟨q,oq,h4,h2,h3⟩
   ·exact hl (hlc q i h1 h4)
 rw [←zdR hag] at hg;have hwant:=zkI he hg;have hops:=zfo hag;unfold wpOp;simp only [ho];rw [hwant];rcases hdone with ⟨rfl,hc,v,hv,hd⟩|⟨rfl,hc,v,ob,nx,hnm,hv,hH,hj,hnx,hd⟩|⟨rfl,hd⟩
 ·rw [if_pos rfl];left;rw [←zha hops] at hv;obtain ⟨u,h1,h2⟩:=zew ci.inv he hv;unfold Oper.wp;rw [h1,Oper.upon_value];obtain ⟨envS',e1,e2,e3⟩:=he.putS h2 (fun d hh=>(hd d hh).1);exact hK envS' j _ _ (ci.list pf ho hD ci.inv ci.st (fun d hh=>by rw [e2 d hh,(hd d hh).2]) e3 (fun _ _ _ _ h=>h)) e1
 ·rw [if_pos rfl];left;rw [←zla hops] at hv;obtain ⟨⟨u,obj,h1,h2,h3⟩,h4⟩:=zf3 (P:=P) (w:=w) he hv;unfold Oper.wp;rw [h1,Oper.upon_value];have hinv:=ci.inv.adopt hH hj h2 (fun v e g cl sh hob=>by subst hob;exact .inl h4);have hst:St j0 H0 (jset j nx ⟨w.heap.size,0,0,none⟩) H:=by
   refine ⟨ci.st.sub.trans (zcd hj),fun m L e e0=> ?_,ci.st.keep,ci.st.nx⟩;by_cases hm:m=nx
   ·omega
   ·rw [zbJ _ _ hm] at e;exact ci.st.fresh m L e e0
  obtain ⟨envS',e1,e2,e3⟩:=(he.mono (zcd hj)).putS h3 (fun d hh=>(hd d hh).1);refine hK envS' _ _ _ (ci.list pf ho hD hinv hst (fun d hh=>by rw [e2 d hh,(hd d hh).2]) e3 (fun i' nx' hne hnm' hj'=> ?_)) e1;rw [zbJ _ _ (fun e=>hne (ci.inj i' i nx' hnm' (by rw [e];exact hnm)))];exact hj'
 ·rw [if_neg (by simp)];obtain ⟨z,hz,hd⟩:=hd;obtain ⟨envS',e1,e2,e3⟩:=he.putS (o:=o) (hz j) (fun d hh=>(hd d hh).1);exact hK envS' j _ _ (ci.list pf ho hD ci.inv ci.st (fun d hh=>by rw [e2 d hh,(hd d hh).2]) e3 (fun _ _ _ _ h=>h)) e1
theorem CI.heavy (hgood:Good P ρ w0 n rec) (pf:PF ops) (ci:CI P ρ w0 ops N env0 H0 j0 D listed envS env j H w nm) (he:ER ρ j N envS a) {h u:Nat} {o:Oper} (ho:ops[h]? =some o) (hv:zaW o=true) (hD: ¬D h)
  (hcl: ∀i x,D i→(mkOf ops i).testBit x=true→D x) (hm: ∀x,(mkOf ops h).testBit x=true→listed x) (hu:(hsOf ops)[u]? =some h)
  (hDs: ∀i oi,D i→ops[i]? =some oi→stOf ops i≤u) {k:T AV→Heap→Ob} {rest:List zhC}
  {fs:List (SB×Bool)} (hf:Told ρ fs) (hden:Ob.den ρ (zaM P rec ops N k (.run o:: .chk (zdN u (mkOf ops h) (zc9 ops))::rest) fs env H)) {K:Act→World→Prop}
  (hK: ∀envS' env' j' H' a' w' fs',CI P ρ w0 ops N env0 H0 j0 (fun x=>D x∨x=h) (fun x=>listed x∨x=h) envS' env' j' H' w' nm→ER ρ j' N envS' a'→Told ρ fs'→Ob.den ρ (zaM P rec ops N k rest fs' env' H')→K a' w'):
  wpOp P ops Q h K a w:=by
 have hag: ∀t∈looks ops o,envS.get t=env.get t:=fun t ht=>by
  by_cases hw: ∃q oq,listed q∧ops[q]? =some oq∧oq.dst=some t
  ·obtain ⟨q,oq,h1,h2,h3⟩:=hw;exact ci.s1 t q oq h1 h2 h3
  ·rw [ci.s0 t fun q oq h1 h2 h3=>hw ⟨q,oq,h1,h2,h3⟩,ci.e0 t fun q oq h1 h2 h3=> ?_];rcases pf.reads h q o oq t ho h2 h3 ht with h4|h4
   ·exact hw ⟨q,oq,hm q h4,h2,h3⟩
   ·exact hD (hcl q h h1 h4)
 obtain ⟨g,z,fs',hgv,hz,hf',hd⟩:=zgT hf hden;have hwant:=zkI he (by rw [zdR hag];exact hgv);have main: ∀(v:AV) (x:Value) (H':Heap) (j':J) (w':World),R ρ j' v x→Inv ρ w0 j' H' w'→St j H j' H'→
   Ob.den ρ (putA o.dst N env v fun env'=>zaM P rec ops N k (.chk (zdN u (mkOf ops h) (zc9 ops))::rest) fs' env' H')→K (a.put o.dst x) w':=by
  intro v x H' j' w' hR hinv hst hput;obtain ⟨env',h5,h6,h7⟩:=zgl hput;obtain ⟨hchk,h8⟩:=zlF h5;obtain ⟨envS',e1,e2,e3⟩:=(he.mono hst.sub).putS hR (fun d hh=>(h6 d hh).1);have hne: ∀i,D i→i≠h:=fun i hi e=>hD (e▸hi);have hkeep: ∀i oi t,D i→ops[i]? =some oi→oi.dst=some t→env'.get t=env.get t:=fun i oi t hi hoi hdd=>h7 t (pf.dsts i h oi o t (hne i hi) hoi ho hdd);have he0: ∀t,(∀i oi,(D i∨i=h)→ops[i]? =some oi→oi.dst≠some t)→env'.get t=env0.get t:=fun t ht=>by
   rw [h7 t (ht h o (.inr rfl) ho)];exact ci.e0 t fun i oi hi hoi=>ht i oi (.inl hi) hoi
  refine hK envS' env' j' H' _ w' fs' ⟨hinv,ci.st.trans hst,fun i hi=>hi.imp (ci.sub i) id,he0,fun t ht=> ?_,fun t i oi hi hoi hdd=> ?_,fun i oi hi hl hoi=> ?_,fun i nx hi=>Nat.lt_of_lt_of_le (ci.bnd i nx hi) hst.nx,ci.inj⟩ e1 hf' h8
  ·rw [e3 t (ht h o (.inr rfl) ho)];exact ci.s0 t fun i oi hi hoi=>ht i oi (.inl hi) hoi
  ·by_cases hih:i=h
   ·subst hih;rw [ho] at hoi;cases hoi;rw [e2 t hdd,(h6 t hdd).2]
   ·have hli:=hi.resolve_right hih;rw [e3 t (pf.dsts i h oi o t hih hoi ho hdd),hkeep i oi t (ci.sub i hli) hoi hdd];exact ci.s1 t i oi hli hoi hdd
  ·have hih:i≠h:=fun e=>hl (.inr e);have hDi:D i:=hi.resolve_right hih;have hli: ¬listed i:=fun e=>hl (.inl e);obtain ⟨envR,g',q1,q2,q3⟩:=ci.recd i oi hDi hli hoi;have hdst: ∀v,zms N env oi v→zms N env' oi v:=fun v hv d hd=>⟨(hv d hd).1,by rw [hkeep i oi d hDi hoi hd];exact (hv d hd).2⟩;have q2':zr1 ops env0 env' envR i oi:=fun t ht=>⟨fun q oq hq hoq hdd=>by rw [(q2 t ht).1 q oq hq hoq hdd,hkeep q oq t (hcl i q hDi hq) hoq hdd],(q2 t ht).2⟩;refine ⟨envR,g',q1,q2',?_⟩;rcases q3 with ⟨rfl,g2,v',g3,g4⟩|⟨g1,g2,v',ob,nx,g3,g4,g5,g6,g7,g8⟩|⟨g1,g2⟩
   ·have hlight:=zqP g2;have hbit:(mkOf ops h).testBit i=false:=by
     cases hb:(mkOf ops h).testBit i with
     | false=>rfl
     | true=>exact absurd (hm i hb) hli
    have hst':=hDs i oi hDi hoi;have hag': ∀t∈looks ops oi,env'.get t=envR.get t:=fun t ht=>by
     by_cases hw: ∃(q:Nat) (oq:Oper),ops[q]? =some oq∧oq.dst=some t
     ·obtain ⟨q,oq,w1,w2⟩:=hw;rcases pf.rer u h i q oi oq t hu hoi hlight hst' hbit w1 w2 ht with hq|hq
      ·exact ((q2' t ht).1 q oq hq w1 w2).symm
      ·have uniq: ∀q' oq',ops[q']? =some oq'→oq'.dst=some t→q'=q:=fun q' oq' x1 x2=>Classical.byContradiction fun hn=>pf.dsts q' q oq' oq t hn x1 w1 x2 w2;rw [(q2' t ht).2 fun q' oq' x0 x1 x2=> ?_]
       ·refine he0 t fun q' oq' x0 x1 x2=> ?_;have:=uniq q' oq' x1 x2;subst this;rcases x0 with x0|rfl
        ·have:=hDs q' oq' x0 x1;omega
        ·have:=zgC pf.edges hu;omega
       ·have:=uniq q' oq' x1 x2;subst this;have:=zlp pf.edges x0;omega
     ·rw [(q2' t ht).2 fun q oq _ w1 w2=>hw ⟨q,oq,w1,w2⟩];exact he0 t fun q oq _ w1 w2=>hw ⟨q,oq,w1,w2⟩
    have hmem:oi∈zdN u (mkOf ops h) (zc9 ops):=zg2.2 ⟨_,zcA.2 ⟨zdZ hoi,hlight,hst',hbit⟩,rfl⟩;rw [←zdR hag'] at q1;rcases zrz hchk oi hmem with hno|⟨hyes,v1,c1,c2⟩
    ·have:=((zkJ (ops:=ops) (env:=env') hf' (o:=oi)).2.1 hno).1;exact absurd (zxe this q1) (by simp)
    ·exact .inl ⟨rfl,g2,v1,by rw [←zha (zfo hag')];exact c1,fun d hh=>⟨(g4 d hh).1,c2 d hh⟩⟩
   ·have hlt:=ci.inv.used nx ob g5;have hnx0:0<nx:=by
     rcases Nat.eq_zero_or_pos nx with h0|h0
     ·subst h0;obtain ⟨kk,rfl⟩:=ci.inv.z0 _ g5;exact absurd g4 (zk9 _ _ _ _ _)
     ·exact h0
    refine .inr (.inl ⟨g1,g2,v',ob,nx,g3,g4,by rw [(hst.keep nx hnx0 g6 hlt).1];exact g5,?_,g7,hdst v' g8⟩);cases hj':j' nx with
    | none=>rfl
    | some L=>have:=hst.fresh nx L hj' g6;omega
   ·exact (.inr (.inr ⟨g1,g2.elim fun z hz=>⟨z,hz.1,hdst _ hz.2⟩⟩))
 unfold wpOp;simp only [ho];rw [hwant];cases g with
 | true=>
  rw [if_pos rfl];have hd:Ob.den ρ (doOp P rec o env H fun env v H=>putA o.dst N env v fun env'=>zaM P rec ops N k (.chk (zdN u (mkOf ops h) (zc9 ops))::rest) fs' env' H):=hd;unfold doOp at hd;rw [zrp hv (pf.nodef h o ho)] at hd;have hd:Ob.den ρ (Dw.heavy P rec o.op env H fun v H=>putA o.dst N env v fun env'=>zaM P rec ops N k (.chk (zdN u (mkOf ops h) (zc9 ops))::rest) fs' env' H):=hd;rw [←zl3 (zfo hag)] at hd;refine .inl (Oper.wp_mono (fun a' w' hp=> ?_) (znC (Q:=Q) hgood ci.inv he hd));obtain ⟨x,rfl,v,H',j',h1,h2,h3,h4⟩:=hp;exact main v x H' j' w' h1 h2 h3 h4
 | false=>
  rw [if_neg (by simp)];exact main z undef H j w (hz rfl j) ci.inv (St.refl j H) hd
def zjF (ops:Array Oper) (s:Nat):List PO→List zhC
 | [] => []
 | h::rest=> .run h.o:: .chk (zdN s h.m (zc9 ops))::zcz (zc9 ops) (Nat.succ s) rest
theorem zgU (ops:Array Oper) (s:Nat) (l:List PO):zcz (zc9 ops) s l=zgM s (zc9 ops)++zjF ops s l:=by
 cases l with
 | nil=>simp [zcz,zjF]
 | cons h l=>simp [zcz,zjF]
theorem zs1 (hgood:Good P ρ w0 n rec) (pf:PF ops) {k:T AV→Heap→Ob} (hQ: ∀a' w',OpsE ρ w0 j0 H0 N k a' w'→Q Exit.normal a' w'):
  ∀ (fuel:Nat) (listed:Array Bool) (s:Nat) (fs:List (SB×Bool)) (envS env:T AV) (j:J) (H:Heap) (a:Act) (w:World) (nm:Nat→Option Nat),listed.size=ops.size→zlg ops listed→listed.count false≤fuel→
   (∀ u h,(hsOf ops)[u]? =some h→(listed.getD h false=true↔u<s))→CI P ρ w0 ops N env0 H0 j0 (DD ops s ops.size) (fun i=>listed.getD i false=true) envS env j H w nm→ER ρ j N envS a→
   Ob.den ρ (zaM P rec ops N k (zjF ops s ((hpOf ops).drop s)) fs env H)→Told ρ fs→wpAny P .any ops Q fuel listed a w:=by
 have fin: ∀(listed:Array Bool) (s:Nat) (fs:List (SB×Bool)) (envS env:T AV) (j:J) (H:Heap) (a:Act) (w:World) (nm:Nat→Option Nat),listed.size=ops.size→zlg ops listed→
   (∀ u h,(hsOf ops)[u]? =some h→(listed.getD h false=true↔u<s))→CI P ρ w0 ops N env0 H0 j0 (DD ops s ops.size) (fun i=>listed.getD i false=true) envS env j H w nm→ER ρ j N envS a→
   Ob.den ρ (zaM P rec ops N k (zjF ops s ((hpOf ops).drop s)) fs env H)→Region.ready .any ops listed= []→Q .normal a w:=by
  intro listed s fs envS env j H a w nm hsz hcl hh ci he hden hr;have hall:=zo8 pf.edges hsz hr;have hdrop:(hpOf ops).drop s= []:=by
   rw [List.drop_eq_nil_iff,zey];apply Classical.byContradiction;intro hn;have hx:(hsOf ops)[s]? =some (hsOf ops)[s]:=List.getElem?_eq_getElem (by omega);obtain ⟨o,ho,_⟩:=ze6.1 ⟨s,hx⟩;have:=(hh s _ hx).1 (hall _ (Array.getElem?_eq_some_iff.1 ho).1);omega
  rw [hdrop] at hden;refine hQ a w ⟨env,H,j,⟨he.size,he.le,fun t ht=> ?_,?_⟩,ci.inv,ci.st,hden⟩
  all_goals
   have heq: ∀t,envS.get t=env.get t:=fun t=>by
    by_cases hw: ∃(q:Nat) (oq:Oper),ops[q]? =some oq∧oq.dst=some t
    ·obtain ⟨q,oq,h1,h2⟩:=hw;exact ci.s1 t q oq (hall q (Array.getElem?_eq_some_iff.1 h1).1) h1 h2
    ·rw [ci.s0 t fun q oq _ h1 h2=>hw ⟨q,oq,h1,h2⟩,ci.e0 t fun q oq _ h1 h2=>hw ⟨q,oq,h1,h2⟩]
  ·have:=he.get t ht;unfold zaD at this ⊢;rw [heq t] at this;exact this
  ·have:=he.dfr;unfold zaD at this ⊢;rw [heq zaZ] at this;exact this
 intro fuel
 induction fuel with
 | zero=>
  intro listed s fs envS env j H a w nm hsz hcl hc hh ci he hden hf;have hr:Region.ready .any ops listed= []:=by
   rw [List.eq_nil_iff_forall_not_mem];intro i hi;have:=count_set (mem_ready.1 hi).1;omega
  exact ⟨hr,fin listed s fs envS env j H a w nm hsz hcl hh ci he hden hr⟩
 | succ fuel ih=>
  intro listed s fs envS env j H a w nm hsz hcl hc hh ci he hden hf;refine ⟨fin listed s fs envS env j H a w nm hsz hcl hh ci he hden,fun i hi=> ?_⟩;obtain ⟨hun,o,ho,hedges⟩:=mem_ready.1 hi;have hlt:=(Array.getElem?_eq_some_iff.1 ho).1;have hun': ¬listed.getD i false=true:=by
   rw [Array.getD_eq_getD_getElem?,Array.getElem?_eq_getElem (by omega)] at hun ⊢;simp only [Option.getD_some] at hun ⊢;rw [hun];simp
  have hmask: ∀x,(mkOf ops i).testBit x=true→listed.getD x false=true:=fun x hx=>zg4 hcl i o ho hedges x hx;have hlc: ∀q x,listed.getD q false=true→(mkOf ops q).testBit x=true→listed.getD x false=true:=fun q x hq hx=>by
   cases hoq:ops[q]? with
   | none=>rw [zeZ hoq] at hx;cases hx
   | some oq=>exact zg4 hcl q oq hoq (fun e h1 h2=>hcl q oq hoq hq e h1 h2) x hx
  have hnew:(fun x=>listed.getD x false=true∨x=i)=fun x=>(listed.setIfInBounds i true).getD x false=true:=funext fun x=>propext (by
   by_cases hx:x=i
   ·subst hx;constructor
    ·intro _;rw [Array.getD_eq_getD_getElem?,Array.getElem?_setIfInBounds_self,if_pos (by omega)];rfl
    ·intro _;exact .inr rfl
   ·rw [getD_set_ne false (Ne.symm hx)];exact ⟨fun h=>h.resolve_right hx,.inl⟩)
  have hsz':(listed.setIfInBounds i true).size=ops.size:=by simp [hsz]
  have hcl':=zo2 hcl hi;have hc':(listed.setIfInBounds i true).count false≤fuel:=by have:=count_set hun;omega
  cases hv:zaW o with
  | false=>
   have hD:DD ops s ops.size i:=by
    refine ⟨o,ho,.inl ⟨hv,?_⟩⟩;rcases ziM (ops:=ops) i with h0|⟨u,x,h1,h2,h3⟩
    ·omega
    ·have:=(hh u x h1).1 (hmask x h2);omega
   refine ci.late pf he ho hD hun' hmask hlc fun envS' j' a' w' ci' he'=> ?_;rw [hnew] at ci';refine ih _ s fs envS' env j' H a' w' nm hsz' hcl' hc' (fun u h hu=> ?_) ci' he' hden hf;have hne:i≠h:=fun e=>by
    subst e;obtain ⟨o',h1,h2⟩:=ze6.1 ⟨u,hu⟩;rw [ho] at h1;cases h1;rw [hv] at h2;cases h2
   rw [getD_set_ne false hne];exact hh u h hu
  | true=>
   obtain ⟨u,hu⟩:=ze6.2 ⟨o,ho,hv⟩;have hus:u=s:=by
    have h1: ¬u<s:=fun h=>hun' ((hh u i hu).2 h);apply Classical.byContradiction;intro hne;obtain ⟨v,rfl⟩: ∃v,u=v+1:=⟨u-1,by omega⟩;have hvlt:v<(hsOf ops).length:=by have:=(List.getElem?_eq_some_iff.1 hu).1;omega
    have hx:(hsOf ops)[v]? =some (hsOf ops)[v]:=List.getElem?_eq_getElem hvlt;have:=(hh v _ hx).1 (hmask _ (pf.chain v _ i hx hu));omega
   subst hus;have hulen:u<(hpOf ops).length:=by rw [zey];exact (List.getElem?_eq_some_iff.1 hu).1
   have hp:(hpOf ops)[u]? =some (hpOf ops)[u]:=List.getElem?_eq_getElem hulen;obtain ⟨p1,p2,p3,p4⟩:=zq6 hp;have hpi:(hpOf ops)[u].i=i:=by rw [hu] at p1;exact (Option.some.inj p1).symm
   have hpo:(hpOf ops)[u].o=o:=by rw [hpi,ho] at p2;exact (Option.some.inj p2).symm
   have hpm:(hpOf ops)[u].m=mkOf ops i:=by rw [p3,hpi]
   have hdrop:(hpOf ops).drop u=(hpOf ops)[u]::(hpOf ops).drop (u+1):=List.drop_eq_getElem_cons hulen;rw [hdrop] at hden;have hden:Ob.den ρ (zaM P rec ops N k (.run (hpOf ops)[u].o:: .chk (zdN u (hpOf ops)[u].m (zc9 ops))::zcz (zc9 ops) (u+1) ((hpOf ops).drop (u+1))) fs env H):=hden;rw [hpo,hpm] at hden;have hD: ¬DD ops u ops.size i:=by
    rintro ⟨o',h1,h2⟩;rw [ho] at h1;cases h1;rcases h2 with ⟨h2,_⟩|⟨_,v,h3,h4⟩
    ·rw [hv] at h2;cases h2
    ·have:=znA hu h4;omega
   refine ci.heavy hgood pf he ho hv hD (fun x y hx hy=>zr2 pf.edges hx hy) hmask hu (fun x ox hx hox=> ?_) hf hden fun envS' env' j' H' a' w' fs' ci' he' hf' hden'=> ?_
   ·obtain ⟨o',h1,h2⟩:=hx;rcases h2 with ⟨_,h2⟩|⟨_,v,h2,h3⟩
    ·omega
    ·have:=zgC pf.edges h3;omega
   ·rw [hnew] at ci';rw [zgU] at hden';obtain ⟨env2,H2,nm2,fs2,ci2,hf2,hden2⟩:=zeL pf ops.toList (zdm ops.toList) 0 fs' env' H' nm hf' (by simp) (by simp) (ci'.congr (ztH hu ho hv)) hden';refine ih _ (u+1) fs2 envS' env2 j' H2 a' w' nm2 hsz' hcl' hc' (fun v x hx=> ?_) ci2 he' hden2 hf2;by_cases hxi:x=i
    ·subst hxi;have:=znA hu hx;subst this;constructor
     ·intro _;omega
     ·intro _;rw [Array.getD_eq_getD_getElem?,Array.getElem?_setIfInBounds_self,if_pos (by omega)];rfl
    ·rw [getD_set_ne false (Ne.symm hxi),hh v x hx];have:v≠u:=fun e=>by subst e;rw [hu] at hx;exact hxi (Option.some.inj hx).symm
     omega
theorem zqr (hmo:P.follows .mixedOrders=true) (hgood:Good P ρ w0 n rec):zn8 P ρ w0 rec:=by
 intro id ops N env H k j a w h hi he;unfold zlw at h;simp only at h;split at h
 case h_2=>exact h.elim
 rename_i l hl;obtain ⟨pf,rfl⟩:=zke hl;rw [zgU] at h;refine wp_region_any hmo ?_;have hfalse: ∀i,((Array.replicate ops.size false).getD i false=true)↔False:=fun i=>by
  rw [Array.getD_eq_getD_getElem?,Array.getElem?_replicate];split<;>simp
 have ci0:CI P ρ w0 ops N env H j (DD ops 0 0) (fun i=>(Array.replicate ops.size false).getD i false=true) env env j H w.drew (fun _=>none):=by
  refine ⟨hi.drew,St.refl j H,fun i h=>((hfalse i).1 h).elim,fun _ _=>rfl,fun _ _=>rfl,fun t i o h=>((hfalse i).1 h).elim,fun i o hD=> ?_,fun i nx h=>(by cases h),fun i i' nx h=>(by cases h)⟩;obtain ⟨o',_,h2⟩:=hD;rcases h2 with ⟨_,h2⟩|⟨_,u,h2,_⟩<;>omega
 obtain ⟨env2,H2,nm2,fs2,ci2,hf2,hden2⟩:=zeL pf ops.toList (zdm ops.toList) 0 [] env H (fun _=>none) (fun _ h=>by cases h) (by simp) (by simp) ci0 h;refine zs1 (k:=k .normal) (j0:=j) (H0:=H) hgood pf (fun a' w' hh=> ?_) ops.size _ 0 fs2 env env2 j H2 a w.drew nm2 (by simp) ?_ ?_ (fun u h hu=> ?_) ci2 he (by simpa using hden2) hf2
 ·obtain ⟨env',H',j',h1,h2,h3,h4⟩:=hh;exact ⟨.normal,env',H',j',rfl,h1,h2,h3,h4⟩
 ·intro i o ho hl;exact ((hfalse i).1 hl).elim
 ·exact Nat.le_trans (Array.count_le_size) (by simp)
 ·constructor
  ·intro h;exact ((hfalse _).1 h).elim
  ·intro h;omega
end
end Go.Dw
namespace Go.Dw
mutual
theorem Ob.den_of_good {ρ:Val}: ∀ {o:Ob},o.good=true→o.den ρ
 | .ok,_=>trivial
 | .bad _ _,h=>by cases h
 | .all l,h=>Ob.denL_of_good (l:=l) h
 | .ite c t e,h=>by
  unfold Ob.good at h;split at h
  ·rename_i ht;exact ⟨fun _=>Ob.den_of_good ht,fun _=>Ob.den_of_good h⟩
  ·cases h
theorem Ob.denL_of_good {ρ:Val}: ∀ {l:List Ob},Ob.goodL l=true→Ob.denL ρ l
 | [], _=>trivial
 | o::l,h=>by
  unfold Ob.goodL at h;split at h
  ·rename_i ho;exact ⟨Ob.den_of_good ho,Ob.denL_of_good h⟩
  ·cases h
end
theorem inv0 {ρ:Val} (w:World):Inv ρ (Cx.plain w) (fun _=>none) heap0 w:=
 ⟨Fr.refl (Cx.plain w),(fun _ _ h=>by cases h),(fun _ _ h=>by cases h),(fun n o h=>by rw [show heap0.m.get n=none from rfl] at h;cases h),(fun _ _ h=>by cases h),(fun _ _ _ _ _ h=>by cases h),
  (fun n v e g t sh ow h=>by rw [show heap0.m.get n=none from rfl] at h;cases h),(fun g x h=>by rw [show heap0.gw.get g=none from rfl] at h;cases h),(fun _ _ _ _ _ _ _ h=>by cases h),(fun _ _ h=>by cases h),(fun _ _ _ _ _ _ h=>by cases h),rfl,Nat.zero_lt_one,(fun o h=>by rw [show heap0.m.get 0=none from rfl] at h;cases h),trivial⟩
theorem zs7 {P:Program} {ρ:Val} {w0:Cx}:zpb P ρ w0 zs8:=fun f args H l h=>by cases h
open Go.RowKit Go.WideShapes Go.ChangeShapes in
theorem post_of_below {H:Type} {enc:TypeId×Value→H} {P:Program} {f:Func} {s:ChangeSpec} {apart fresh handsOn again:Bool} {W W':World} {args:Array Value} {v:Value} {ds gs:List (DataW H)} {before pa pv:List MemPlace}
  (hW:DataW.Whole enc P f.params.toList s.vars apart W args.toList ds gs before)
  (hres: ∀(b:Nat) (sp:Nat→Bool) (hd:Bool),DataW.TrodAll enc P W' b sp hd f.resultTypes.toList (v.resultList f.resultTypes.size) (s.fn H (ds++gs)).results [])
  (hargs: ∀sp:Nat→Bool,(∀p∈before,sp p.block=true)→DataW.TrodAll enc P W' 0 sp true f.params.toList args.toList (s.fn H (ds++gs)).args pa)
  (hvars: ∀sp:Nat→Bool,(∀p∈before,sp p.block=true)→DataW.TrodVars enc P W' sp s.vars (s.fn H (ds++gs)).vars pv)
  (hps:before=pa++pv) (hb:Below W.heap.size W W')
  (hok: ∀(j:Nat) (t:TypeId) (r:Value),f.resultTypes[j]? =some t→(v.resultList f.resultTypes.size)[j]? =some r→Value.okWide P W' .any 0 t r):
  s.post enc P f apart fresh handsOn again W args v W':=by
 have hlt: ∀p∈before,p.block<W.heap.size:=fun p hp=>hW.lt p hp;have hold: ∀p∈before,(fun b=>decide (b<W.heap.size)) p.block=true:=fun p hp=>by simpa using hlt p hp
 refine ⟨ds,gs,before,[],pa,pv,hW,hres _ _ _,hargs _ hold,hvars _ hold,World.keptBut_mono (fun p hp=>⟨hp,?_⟩) (hb.frame (· ∈before)),fun _=> ?_⟩
 ·rw [hps,List.mem_append] at hp;exact Or.inr hp
 ·obtain ⟨_,_,_,_,_,hz,hn⟩:=hW;refine ⟨hok,_,_,([]++pa)++pv,⟨[]++pa,pv,trodAll_append (hargs _ (fun _ _=>rfl)) (hres _ _ _),hvars _ (fun _ _=>rfl),rfl,?_,?_⟩,?_⟩
  ·intro b off hp;have hin:MemPlace.cell b off∈before:=by rw [hps];simpa using hp
   rw [hb.frozen (hlt _ hin)];exact hz b off hin
  ·intro ha;have:=hn ha;rw [hps] at this;simpa using this
  ·intro p hp _;rw [hps];simpa using hp
open Go.RowKit
def Val.mark (ρ:Val) (m:Nat→Bool):Val:=⟨ρ.i,fun n=>if n<1000000 then ρ.b n else m n,ρ.v⟩
def SB.small:SB→Bool
 | .lit _=>true
 | .var n=>Nat.blt n 1000000
 | .cmp _ _ _=>true
 | .not a=>a.small
 | .beq a b=>match a.small with|true=>b.small|false=>false
 | .and a b=>match a.small with|true=>b.small|false=>false
theorem zkL (ρ:Val) (m:Nat→Bool): ∀(l:List Fld) (c:Nat),zab (ρ.mark m) l c=zab ρ l c
 | [], c=>rfl
 | f::l,c=>by
  unfold zab;rw [zkL ρ m l c];rfl
theorem SE.den_mark (ρ:Val) (m:Nat→Bool): ∀a:SE,a.den (ρ.mark m)=a.den ρ
 | .lit n=>rfl
 | .var i=>rfl
 | .bin o k a b=>by unfold SE.den;rw [SE.den_mark ρ m a,SE.den_mark ρ m b]
 | .wrap k a=>by unfold SE.den;rw [SE.den_mark ρ m a]
 | .flds l c=>by unfold SE.den;rw [zkL]
theorem SB.den_mark (ρ:Val) (m:Nat→Bool): ∀b:SB,b.small=true→b.den (ρ.mark m)=b.den ρ
 | .lit b,_=>rfl
 | .var n,h=>by
  have h:Nat.blt n 1000000=true:=h;rw [Nat.blt_eq] at h;show (if n<1000000 then ρ.b n else m n)=ρ.b n;rw [if_pos h]
 | .cmp o a b,_=>by unfold SB.den;rw [SE.den_mark,SE.den_mark]
 | .not a,h=>by unfold SB.den;rw [SB.den_mark ρ m a h]
 | .beq a b,h=>by
  unfold SB.small at h;split at h
  ·rename_i ha;unfold SB.den;rw [SB.den_mark ρ m a ha,SB.den_mark ρ m b h]
  ·cases h
 | .and a b,h=>by
  unfold SB.small at h;split at h
  ·rename_i ha;unfold SB.den;rw [SB.den_mark ρ m a ha,SB.den_mark ρ m b h]
  ·cases h
structure Leaf where
 v:AV
 rows:List (Nat×List AV)
 maps:List (Nat×List (AV×Option AV))
 gs:Nat
 own:List Nat
def zj1 (H:Heap) (n:Nat) (l:List AV):Bool:=
 match H.m.get n with
 | some (.cells v _ g c _ _)=>(match alive H.gw g c,Nat.beq v.n l.length with
  | true,true=>AV.beqL (v.list 0 v.n) l
  | _,_=>false)
 | _=>false
def zqB:Option AV→Option AV→Bool
 | none,none=>true
 | some a,some b=>AV.beq a b
 | _,_=>false
def znt:List (AV×Option AV)→List (AV×Option AV)→Bool
 | [], [] => true
 | a::l,b::m=>(match AV.beq a.1 b.1,zqB a.2 b.2 with
  | true,true=>znt l m
  | _,_=>false)
 | _,_=>false
def zoM (H:Heap) (n:Nat) (l:List (AV×Option AV)):Bool:=
 match H.m.get n with
 | some (.mapx _ log)=>znt log l
 | _=>false
def zkK (H:Heap) (n:Nat):Nat:=
 match H.m.get n with
 | some (.cells _ _ g _ _ _)=>g
 | _=>0
def ztl (H:Heap) (g:Nat):List (Nat×List AV)→Bool
 | [] => false
 | p::l=>match Nat.beq (zkK H p.1) g with|true=>true|false=>ztl H g l
def zb7 (H:Heap):List (Nat×List AV)→Bool
 | [] => true
 | p::l=>match zj1 H p.1 p.2,ztl H (zkK H p.1) l with|true,false=>zb7 H l|_,_=>false
theorem zjh {H:Heap} {g:Nat}: ∀ {l:List (Nat×List AV)},ztl H g l=false→ ∀ {r:Nat×List AV},r∈l→zkK H r.1≠g
 | [], _,_,h=>by cases h
 | x::l,ha,r,h=>by
  unfold ztl at ha;split at ha
  ·cases ha
  rename_i h1;rcases List.mem_cons.1 h with rfl|h
  ·intro e;rw [e] at h1;simp [Nat.beq_refl] at h1
  ·exact zjh ha h
theorem zeU {H:Heap}: ∀ {l:List (Nat×List AV)},zb7 H l=true→ ∀ {r r':Nat×List AV},r∈l→r'∈l→r.1≠r'.1→zkK H r.1≠zkK H r'.1
 | [], _,_,_,h,_,_=>by cases h
 | x::l,ha,r,r',h,h',hne=>by
  unfold zb7 at ha;split at ha
  case h_2=>cases ha
  rename_i h1 h2;rcases List.mem_cons.1 h with h3|h3
  ·rcases List.mem_cons.1 h' with h4|h4
   ·exact absurd (by rw [h3,h4]) hne
   ·rw [h3];exact fun e=>zjh h2 h4 e.symm
  ·rcases List.mem_cons.1 h' with h4|h4
   ·rw [h4];exact zjh h2 h3
   ·exact zeU ha h3 h4 hne
def zev (H:Heap):List (Nat×List (AV×Option AV))→Bool
 | [] => true
 | p::l=>match zoM H p.1 p.2 with|true=>zev H l|false=>false
def zwM (H:Heap) (n:Nat):Bool:=
 match H.m.get n with
 | some (.cells _ _ g _ _ true)=>Nat.beq g n
 | _=>false
def zgY (H:Heap):List Nat→Bool
 | [] => true
 | n::l=>match zwM H n with|true=>zgY H l|false=>false
theorem zgX {H:Heap}: ∀ {l:List Nat},zgY H l=true→ ∀ {n:Nat},n∈l→ ∃v e c sh,H.m.get n=some (.cells v e n c sh true)
 | [], _,_,h=>by cases h
 | x::l,ha,n,h=>by
  unfold zgY at ha;split at ha
  case h_2=>cases ha
  rename_i h1;rcases List.mem_cons.1 h with rfl|h
  ·unfold zwM at h1;split at h1
   ·rename_i hm;have h1:=zaj h1;subst h1;exact ⟨_,_,_,_,hm⟩
   ·cases h1
  ·exact zgX ha h
def Leaf.fits (l:Leaf) (v:AV) (H:Heap):Bool:=
 match AV.beq v l.v,zb7 H l.rows,zev H l.maps,Nat.beq H.gs l.gs with
 | true,true,true,true=>zgY H l.own
 | _,_,_,_=>false
def zbh:List Leaf→Nat→AV→Heap→Ob
  | [], _, _, _ => .bad 95 ""
  | l::r,i,v,H=>match l.fits v H with
    | true => zdA (Nat.add 1000000 i) fun n => .ite (.var n) .ok (.bad 96 "")
    | false=>zbh r (Nat.succ i) v H
def zqX:SB→Option Nat
 | .var n=>(match Nat.ble 1000000 n with|true=>some (Nat.sub n 1000000)|false=>none)
 | _=>none
def zvt:BinOp→Option BinOp
 | .eql=>some .neq| .neq=>some .eql| .lss=>some .geq| .geq=>some .lss| .leq=>some .gtr| .gtr=>some .leq
 | _=>none
def zpB:BinOp→BinOp
 | .lss=> .gtr| .gtr=> .lss| .leq=> .geq| .geq=> .leq
 | o=>o
def zqY:BinOp→Bool
 | .eql| .neq| .lss| .leq| .gtr| .geq=>true
 | _=>false
def zr6 (pre:List (SB×Bool)) (o:BinOp) (a b:SE):Option Bool:=
 match zeI (.cmp o a b) pre with
 | some c=>some c
 | none=>match zvt o with
  | some o'=>(match zeI (.cmp o' a b) pre with|some true=>some false|some false=>some true|none=>none)
  | none=>none
def zf5 (pre:List (SB×Bool)):SB→Option Bool
 | .lit b=>some b
 | .not a=>(match zeI (.not a) pre with
  | some b=>some b
  | none=>match zf5 pre a with|some true=>some false|some false=>some true|none=>none)
 | .and a b=>(match zeI (.and a b) pre with
  | some c=>some c
  | none=>match zf5 pre a with
   | some false=>some false
   | some true=>zf5 pre b
   | none=>match zf5 pre b with|some false=>some false|_=>none)
 | .cmp o a b=>(match zr6 pre o a b with
  | some c=>some c
  | none=>match zqY o with
   | true=>zr6 pre (zpB o) b a
   | false=>none)
 | c=>zeI c pre
def zhE (pre:List (SB×Bool)):SB→SB
 | .lit b=> .lit b
 | .not a=>(match zf5 pre (.not a) with
  | some b=> .lit b
  | none=>mkNot (zhE pre a))
 | .and a b=>(match zf5 pre (.and a b) with
  | some c=> .lit c
  | none=>mkAnd (zhE pre a) (zhE pre b))
 | c=>(match zf5 pre c with
  | some b=> .lit b
  | none=>c)
def tell (pre:List (SB×Bool)):SB→Bool→List (SB×Bool)
 | .not a,b=>tell pre a (match b with|true=>false|false=>true)
 | .and a b,true=>tell (tell pre a true) b true
 | c,b=>pre++ [(c,b)]
mutual
def Ob.paths (pre:List (SB×Bool)):Ob→Option (List (List (SB×Bool)×Nat))
 | .ok=>none
 | .bad _ _=>none
 | .all l=>Ob.pathsL pre l
 | .ite c t e=>match zqX c with
  | some i=>(match t,e with
   | .ok,.bad _ _=>some [(pre,i)]
   | _,_=>none)
  | none=>match c.small with
   | false=>none
   | true=>match zhE pre c with
    | .lit true=>Ob.paths pre t
    | .lit false=>Ob.paths pre e
    | c=>match zf5 pre c with
     | some true=>Ob.paths pre t
     | some false=>Ob.paths pre e
     | none=>match Ob.paths (tell pre c true) t,Ob.paths (tell pre c false) e with
      | some a,some b=>some (a++b)
      | _,_=>none
def Ob.pathsL (pre:List (SB×Bool)):List Ob→Option (List (List (SB×Bool)×Nat))
 | [] => some []
 | o::l=>match Ob.paths pre o,Ob.pathsL pre l with
  | some a,some b=>some (a++b)
  | _,_=>none
end
theorem zoK {n:Nat} (h:Nat.ble 1000000 n=true):1000000+Nat.sub n 1000000=n∧ ¬n<1000000:=by
 have h:=Nat.le_of_ble_eq_true h;have e:Nat.sub n 1000000=n-1000000:=rfl;rw [e];omega
theorem zqW {c:SB} {i:Nat} (h:zqX c=some i): ∃n,c= .var n∧1000000+i=n∧ ¬n<1000000:=by
 unfold zqX at h;split at h
 case h_2=>cases h
 rename_i n;split at h
 case h_2=>cases h
 rename_i hn;have h:=Option.some.inj h;obtain ⟨h1,h2⟩:=zoK hn;exact ⟨n,rfl,by rw [←h];exact h1,h2⟩
theorem zkm {ρ:Val} {o o':BinOp} {a b:SE} (h:zvt o=some o'):SB.den ρ (.cmp o a b)= !(SB.den ρ (.cmp o' a b)):=by
 cases o<;>simp only [zvt] at h<;>cases h<;>simp only [SB.den,zem]
 ·cases hh:(a.den ρ==b.den ρ)<;>simp_all [bne]
 ·cases hh:(a.den ρ==b.den ρ)<;>simp_all [bne]
 all_goals
  rw [←decide_not];congr 1;exact propext (by omega)
theorem zog {ρ:Val} {o:BinOp} {a b:SE} (h:zqY o=true):SB.den ρ (.cmp (zpB o) b a)=SB.den ρ (.cmp o a b):=by
 have he:(b.den ρ==a.den ρ)=(a.den ρ==b.den ρ):=by
  rw [Bool.eq_iff_iff,beq_iff_eq,beq_iff_eq];exact ⟨Eq.symm,Eq.symm⟩
 cases o<;>simp only [zqY] at h<;>first|cases h|skip
 all_goals simp only [zpB,SB.den,zem]
 ·exact he
 ·unfold bne;rw [he]
theorem zjD {ρ:Val} {pre:List (SB×Bool)} (ht:Told ρ pre) {o:BinOp} {x y:SE} {b':Bool} (h:zr6 pre o x y=some b'):SB.den ρ (.cmp o x y)=b':=by
 unfold zr6 at h;split at h
 ·rename_i hb;cases h;exact zcG ht hb
 ·split at h
  ·rename_i o' ho;split at h
   ·rename_i hb;cases h;rw [zkm ho,zcG ht hb];rfl
   ·rename_i hb;cases h;rw [zkm ho,zcG ht hb];rfl
   ·cases h
  ·cases h
theorem za8 {ρ:Val} {pre:List (SB×Bool)} (ht:Told ρ pre): ∀ {c:SB} {b:Bool},zf5 pre c=some b→c.den ρ=b
 | .lit b,b',h=>by cases h;rfl
 | .var n,b',h=>zcG ht h
 | .beq x y,b',h=>zcG ht h
 | .not a,b',h=>by
  unfold zf5 at h;split at h
  ·rename_i hb;cases h;exact zcG ht hb
  ·split at h
   ·rename_i ha;cases h;show (!(a.den ρ))=false;rw [za8 ht ha];rfl
   ·rename_i ha;cases h;show (!(a.den ρ))=true;rw [za8 ht ha];rfl
   ·cases h
 | .and x y,b',h=>by
  unfold zf5 at h;split at h
  ·rename_i hb;cases h;exact zcG ht hb
  ·split at h
   ·rename_i ha;cases h;show (x.den ρ&&y.den ρ)=false;rw [za8 ht ha];rfl
   ·rename_i ha;show (x.den ρ&&y.den ρ)=b';rw [za8 ht ha,za8 ht h];rfl
   ·split at h
    ·rename_i ha;cases h;show (x.den ρ&&y.den ρ)=false;rw [za8 ht ha];simp
    ·cases h
 | .cmp o x y,b',h=>by
  unfold zf5 at h;split at h
  ·rename_i hb;cases h;exact zjD ht hb
  ·split at h
   ·rename_i ho;rw [←zog ho];exact zjD ht h
   ·cases h
theorem zdG {ρ:Val} {l:List (SB×Bool)} {c:SB} {b:Bool} (h:Told ρ l) (hc:c.den ρ=b):Told ρ (l++ [(c,b)]):=fun x hx=>by
 rcases List.mem_append.1 hx with hx|hx
 ·exact h x hx
 ·rw [List.mem_singleton] at hx;subst hx;exact hc
theorem zeM {ρ:Val} {pre:List (SB×Bool)} (ht:Told ρ pre): ∀c:SB,(zhE pre c).den ρ=c.den ρ
 | .lit b=>rfl
 | .not a=>by
  unfold zhE;split
  ·rename_i h;exact (za8 ht h).symm
  ·rw [zbj,zeM ht a];rfl
 | .and a b=>by
  unfold zhE;split
  ·rename_i h;exact (za8 ht h).symm
  ·rw [zb2,zeM ht a,zeM ht b];rfl
 | .var n=>by
  unfold zhE;split
  ·rename_i h;exact (za8 ht h).symm
  ·rfl
 | .cmp o a b=>by
  unfold zhE;split
  ·rename_i h;exact (za8 ht h).symm
  ·rfl
 | .beq a b=>by
  unfold zhE;split
  ·rename_i h;exact (za8 ht h).symm
  ·rfl
theorem zdH {ρ:Val}: ∀(c:SB) (pre:List (SB×Bool)) (b:Bool),Told ρ pre→c.den ρ=b→Told ρ (tell pre c b)
 | .not a,pre,b,ht,h=>by
  unfold tell;refine zdH a pre _ ht ?_;have h:(!(a.den ρ))=b:=h;cases b<;>cases ha:a.den ρ<;>simp_all
 | .and a b,pre,true,ht,h=>by
  unfold tell;have h:(a.den ρ&&b.den ρ)=true:=h;rw [Bool.and_eq_true] at h;exact zdH b _ _ (zdH a pre _ ht h.1) h.2
 | .and a b,pre,false,ht,h=>zdG ht h
 | .lit _,pre,b,ht,h=>by unfold tell;exact zdG ht h
 | .var _,pre,b,ht,h=>by unfold tell;exact zdG ht h
 | .cmp _ _ _,pre,b,ht,h=>by unfold tell;exact zdG ht h
 | .beq _ _,pre,b,ht,h=>by unfold tell;exact zdG ht h
mutual
theorem paths_den {ρ:Val} {m:Nat→Bool} {ps:List (List (SB×Bool)×Nat)} (hm: ∀p∈ps,Told ρ p.1→m (1000000+p.2)=true):
  ∀ {o:Ob} {pre:List (SB×Bool)} {qs:List (List (SB×Bool)×Nat)},o.paths pre=some qs→(∀q∈qs,q∈ps)→Told ρ pre→o.den (ρ.mark m)
 | .ok,pre,qs,h,_,_=>by unfold Ob.paths at h;cases h
 | .bad _ _,pre,qs,h,_,_=>by unfold Ob.paths at h;cases h
 | .all l,pre,qs,h,hq,ht=>by
  unfold Ob.paths at h;exact pathsL_den (l:=l) hm h hq ht
 | .ite c t e,pre,qs,h,hq,ht=>by
  unfold Ob.paths at h;split at h
  ·rename_i i hi;split at h
   ·cases h;obtain ⟨n,rfl,e1,e2⟩:=zqW hi;have:=hm (pre,i) (hq _ (by simp)) ht;rw [e1] at this;have hd:SB.den (ρ.mark m) (.var n)=true:=by
     show (if n<1000000 then ρ.b n else m n)=true;rw [if_neg e2];exact this
    exact ⟨fun _=>trivial,fun hf=>by rw [hd] at hf;cases hf⟩
   ·cases h
  ·split at h
   ·cases h
   ·rename_i hs;have hd:=SB.den_mark ρ m c hs;have hsi:=zeM ht c;split at h
    ·rename_i hl;rw [hl] at hsi;have hc:c.den ρ=true:=hsi.symm;exact ⟨fun _=>paths_den hm h hq ht,fun hf=>(by rw [hd,hc] at hf;cases hf)⟩
    ·rename_i hl;rw [hl] at hsi;have hc:c.den ρ=false:=hsi.symm;exact ⟨fun hf=>(by rw [hd,hc] at hf;cases hf),fun _=>paths_den hm h hq ht⟩
    ·split at h
     ·rename_i hta;have hc:=za8 ht hta;rw [hsi] at hc;exact ⟨fun _=>paths_den hm h hq ht,fun hf=>(by rw [hd,hc] at hf;cases hf)⟩
     ·rename_i hta;have hc:=za8 ht hta;rw [hsi] at hc;exact ⟨fun hf=>(by rw [hd,hc] at hf;cases hf),fun _=>paths_den hm h hq ht⟩
     ·split at h
      ·rename_i a b h1 h2;cases h;exact ⟨fun hc=>paths_den hm h1 (fun q hq'=>hq q (by simp [hq'])) (zdH _ _ _ ht (by rw [hsi,←hd];exact hc)),fun hc=>paths_den hm h2 (fun q hq'=>hq q (by simp [hq'])) (zdH _ _ _ ht (by rw [hsi,←hd];exact hc))⟩
      ·cases h
theorem pathsL_den {ρ:Val} {m:Nat→Bool} {ps:List (List (SB×Bool)×Nat)} (hm: ∀p∈ps,Told ρ p.1→m (1000000+p.2)=true):
  ∀ {l:List Ob} {pre:List (SB×Bool)} {qs:List (List (SB×Bool)×Nat)},Ob.pathsL pre l=some qs→(∀q∈qs,q∈ps)→Told ρ pre→Ob.denL (ρ.mark m) l
 | [], _,_,_,_,_=>trivial
 | o::l,pre,qs,h,hq,ht=>by
  unfold Ob.pathsL at h;split at h
  ·rename_i a b h1 h2;cases h;exact ⟨paths_den hm h1 (fun q hq'=>hq q (by simp [hq'])) ht,pathsL_den hm h2 (fun q hq'=>hq q (by simp [hq'])) ht⟩
  ·cases h
end
theorem zif {ρ:Val} {v:AV} {H:Heap}: ∀ {ls:List Leaf} {i:Nat},Ob.den ρ (zbh ls i v H)→ ∃k l,ls[k]? =some l∧l.fits v H=true∧ρ.b (1000000+(i+k))=true
 | [], i,h=>h.elim
 | l::r,i,h=>by
  unfold zbh at h;split at h
  ·rename_i hf;rw [zbK] at h;refine ⟨0,l,rfl,hf,?_⟩;cases hb:ρ.b (1000000+(i+0)) with
   | true=>rfl
   | false=>exact (h.2 hb).elim
  ·obtain ⟨k,l',h1,h2,h3⟩:=zif h;refine ⟨k+1,l',h1,h2,?_⟩;rw [show i+(k+1)=Nat.succ i+k by omega];exact h3
theorem zs4 {P:Program} (hmo:P.follows .mixedOrders=true) {orc:FuncId→List AV→Heap→Option (List (AV×Heap))} {x:Cx} {ρ:Val} {w:World} {n:Nat} {f:FuncId} {args:List AV} {vals:List Value} {H:Heap} {j:J} {ls:List Leaf} {asm:List (SB×Bool)} {ps:List (List (SB×Bool)×Nat)}
  (hor: ∀m,zpb P (ρ.mark m) x orc) (hi: ∀m,Inv (ρ.mark m) x j H w) (ha: ∀m,RL (ρ.mark m) j args vals) (ht:Told ρ asm)
  (h:(ev P orc n (.call f args H (zbh ls 0))).paths asm=some ps):
  Calls P f vals.toArray w fun e w'=> ∃p∈ps,Told ρ p.1∧ ∃l,ls[p.2]? =some l∧ ∃m u v j' H',e= .returned u∧R (ρ.mark m) j' v u∧Inv (ρ.mark m) x j' H' w'∧St j H j' H'∧l.fits v H'=true:=by
 classical
 let m:Nat→Bool:=fun k=>decide (∃p∈ps,1000000+p.2=k∧Told ρ p.1)
 have hm: ∀p∈ps,Told ρ p.1→m (1000000+p.2)=true:=fun p hp ht=>by
  show decide _=true;exact decide_eq_true ⟨p,hp,rfl,ht⟩
 have hd:=paths_den hm h (fun q hq=>hq) ht;have hg:=zrk (w0:=x) (hor m) (fun n rec hg=>zqr hmo hg) n;refine Calls.mono ((hg.call f args H (zbh ls 0) hd).2 j w vals (hi m) (ha m)) fun e w' he=> ?_;obtain ⟨u,rfl,v,H',j',h1,h2,h3,h4⟩:=he;obtain ⟨k,l,h5,h6,h7⟩:=zif h4;have h7:(if 1000000+(0+k)<1000000 then ρ.b (1000000+(0+k)) else m (1000000+(0+k)))=true:=h7;rw [if_neg (by omega)] at h7;obtain ⟨p,hp,hk,hto⟩:=of_decide_eq_true h7;have:p.2=k:=by omega
 subst this;exact ⟨p,hp,hto,l,h5,m,u,v,j',H',rfl,h1,h2,h3,h6⟩
theorem zw2 {l:Leaf} {v:AV} {H:Heap} (h:l.fits v H=true):v=l.v∧zb7 H l.rows=true∧zev H l.maps=true∧H.gs=l.gs∧zgY H l.own=true:=by
 unfold Leaf.fits at h;split at h
 ·rename_i h1 h2 h3 h4;exact ⟨AV.beq_eq h1,h2,h3,zaj h4,h⟩
 ·cases h
theorem zd1 {H:Heap} {n:Nat} {l:List AV} (h:zj1 H n l=true): ∃v e g c s o,H.m.get n=some (.cells v e g c s o)∧alive H.gw g c=true∧v.n=l.length∧ ∀i (hi:i<l.length),v.get i=l[i]:=by
 unfold zj1 at h;split at h
 case h_2=>cases h
 rename_i v e g c s o hm;split at h
 case h_2=>cases h
 rename_i ha hn;have hn:=zaj hn;have hb:=AV.beqL_eq h;refine ⟨v,e,g,c,s,o,hm,ha,hn,fun i hi=> ?_⟩;have h1:=Vec.getElem_list v.n v 0 i (by omega);rw [hb,List.getElem?_eq_getElem hi] at h1;rw [Option.some.inj h1,Nat.zero_add]
theorem Inv.rowOut {ρ:Val} {x:Cx} {j:J} {H:Heap} {w:World} (hi:Inv ρ x j H w) {n:Nat} {L:Loc} {l:List AV} (hj:j n=some L) (hr:zj1 H n l=true):
  ∃ vals arr e fr,w.heap[L.blk]? =some (.cells arr e fr)∧RL ρ j l vals∧(∀(i:Nat) (y:Value),vals[i]? =some y→arr[L.off+i]? =some y)∧L.q=none∧(x.own L.blk→fr=(0,0)):=by
 obtain ⟨v,e,gr,c,s,o,hm,ha,hn,hg⟩:=zd1 hr;have hrow:H.row n=some v:=by unfold Heap.row;rw [hm];simp only [ha]
 obtain ⟨arr,e',fr,h1,h2,h3⟩:=hi.row hj hrow;have hq:=hi.qrow hj hm;refine ⟨(List.range l.length).map fun i=>arr.getD (L.off+i) undef,arr,e',fr,h1,RL.of_get (by simp) fun i a hia=> ?_,fun i y hy=> ?_,hq,fun ho=>hi.fz n L hj hq ho _ _ _ h1⟩
 ·have hlt:i<l.length:=by
   rcases Nat.lt_or_ge i l.length with h'|h'
   ·exact h'
   ·rw [List.getElem?_eq_none h'] at hia;cases hia
  obtain ⟨y,h4,h5⟩:=h3 i (by omega);refine ⟨y,by simp [hlt,h4],?_⟩;rw [hg i hlt] at h5;rw [List.getElem?_eq_getElem hlt] at hia;cases hia;exact h5
 ·have hlt:i<l.length:=by
   rcases Nat.lt_or_ge i l.length with h'|h'
   ·exact h'
   ·rw [List.getElem?_eq_none (by simpa using h')] at hy;cases hy
  obtain ⟨z,h4,_⟩:=h3 i (by omega);simp [hlt,h4] at hy;rw [h4,hy]
theorem Inv.rowsApart {ρ:Val} {x:Cx} {j:J} {H:Heap} {w:World} (hi:Inv ρ x j H w) {n m:Nat} {L M:Loc} {l k:List AV} (hne:n≠m) (hgr:zkK H n≠zkK H m) (hn:j n=some L) (hm:j m=some M) (hl:zj1 H n l=true) (hk:zj1 H m k=true) (hb:L.blk=M.blk): ¬x.own L.blk:=by
 obtain ⟨v,e,g0,c,s,o,h1,_⟩:=zd1 hl;obtain ⟨v',e',g0',c',s',o',h2,_⟩:=zd1 hk;unfold zkK at hgr;rw [h1,h2] at hgr;obtain ⟨_,_,_,_,_,_,_,_,_,_,_,_,h3,h4,h5,h6⟩:=hi.sep n m L M hne hn hm (hi.qrow hn h1) (hi.qrow hm h2) hb;rw [h1] at h3;cases h3;rw [h2] at h4;cases h4;cases o with
 | true=>exact absurd (h6 rfl).1 hgr
 | false=>
  obtain ⟨ob,g1,g2⟩:=hi.obj n L hn;rw [h1] at g1;cases g1;have:=g2.2.1
  rwa [if_neg (by decide)] at this
theorem Inv.rowMapApart {ρ:Val} {x:Cx} {j:J} {H:Heap} {w:World} (hi:Inv ρ x j H w) {n m:Nat} {L M:Loc} {l:List AV} {k:List (AV×Option AV)} (hn:j n=some L) (hm:j m=some M) (hl:zj1 H n l=true) (hk:zoM H m k=true):L.blk≠M.blk:=fun hb=>by
 obtain ⟨v,e,g0,c,s,o,h1,_⟩:=zd1 hl;unfold zoM at hk;split at hk
 case h_2=>cases hk
 rename_i kn log h2;have hne:n≠m:=fun e=>by subst e;rw [h1] at h2;cases h2
 obtain ⟨_,_,_,_,_,_,_,_,_,_,_,_,h3,h4,h5,h6⟩:=hi.sep n m L M hne hn hm (hi.qrow hn h1) (hi.q hm h2 (by intro e;cases e)) hb;rw [h2] at h4;cases h4
theorem zqA {a b:Option AV} (h:zqB a b=true):a=b:=by
 cases a<;>cases b<;>simp only [zqB] at h<;>first|rfl|rw [AV.beq_eq h]|cases h
theorem zkt: ∀ {a b:List (AV×Option AV)},znt a b=true→a=b
 | [], [], _=>rfl
 | [], _::_,h=>by cases h
 | _::_,[],h=>by cases h
 | x::a,y::b,h=>by
  unfold znt at h;split at h
  ·rename_i h1 h2;rw [zkt h,Prod.ext (AV.beq_eq h1) (zqA h2)]
  ·cases h
theorem Inv.mapOut {ρ:Val} {x:Cx} {j:J} {H:Heap} {w:World} (hi:Inv ρ x j H w) {n:Nat} {L:Loc} {l:List (AV×Option AV)} (hj:j n=some L) (hr:zoM H n l=true):
  ∃ arr clock arr0 clock0 m1,w.heap[L.blk]? =some (.map arr clock)∧x.w.heap[L.blk]? =some (.map arr0 clock0)∧(zb6 arr∧Born arr clock)∧RX ρ j l m1∧ ∀k,zaU arr k=mlog (zaU arr0) m1 k:=by
 unfold zoM at hr;split at hr
 case h_2=>cases hr
 rename_i kn log hm;rw [←zkt hr];obtain ⟨ob,h1,h2⟩:=hi.obj n L hj;rw [hm] at h1;cases h1;obtain ⟨_,_,_,arr,clock,arr0,clock0,m0,m1,h3,h4,h5,_,h7,_,h9⟩:=h2;exact ⟨arr,clock,arr0,clock0,m1,h3,h4,⟨h5.1,h5.2.1⟩,h7,h9⟩
inductive Sh where
 | own (row:List AV)
 | ro (row:List AV)
 | mapx (kn:List (AV×Option AV))
def Sh.obj (s:Sh) (n:Nat):Obj:=
 match s with
 | .own row=> .cells (Vec.ofList row) 0 n none false true
 | .ro row=> .cells (Vec.ofList row) 0 n none false false
 | .mapx kn=> .mapx kn []
def Sh.isRo:Sh→Bool
 | .ro _=>true
 | _=>false
def zij:List Sh→Nat→T Obj→T Obj
 | [], _,t=>t
 | s::l,n,t=>zij l (Nat.succ n) (t.set n (s.obj n))
def zaV (k:Nat) (l:List Sh):Heap:=⟨zij l 1 (T.set .leaf 0 (.gs k)),Nat.succ l.length,.leaf⟩
def jOf (l:List (Nat×Nat)):J:=fun n=>match n with|0=>none|k+1=>(l[k]?).map fun b=>⟨b.1,b.2,0,none⟩
theorem zii: ∀(l:List Sh) (n:Nat) (t:T Obj) (i:Nat),(zij l n t).get i=if n≤i∧i<n+l.length then (l[i-n]?).map (·.obj i) else t.get i
 | [], n,t,i=>by
  unfold zij;rw [if_neg (by simp)]
 | s::l,n,t,i=>by
  unfold zij;rw [zii l,T.get_set];by_cases h1:n+1≤i∧i<n+1+l.length
  ·rw [if_pos h1,if_pos (by simp only [List.length_cons];omega),show i-n=(i-(n+1))+1 by omega,List.getElem?_cons_succ]
  ·rw [if_neg h1];by_cases h2:i=n
   ·subst h2;rw [if_pos rfl,if_pos (by simp only [List.length_cons];omega),Nat.sub_self];rfl
   ·rw [if_neg h2,if_neg (by simp only [List.length_cons];omega)]
def ShOk (ρ:Val) (j:J) (x:Cx) (b:Nat×Nat):Sh→Prop
 | .own row=>x.K b.1∧b.2=0∧ ∃(vals:List Value) (arr:Array Value) (e:TypeId),x.w.heap[b.1]? =some (.cells arr e (0,0))∧RL ρ j row vals∧ ∀(i:Nat) (y:Value),vals[i]? =some y→arr[i]? =some y
 | .ro row=> ¬x.K b.1∧ ∃(vals:List Value) (arr:Array Value) (e:TypeId) (fr:Nat×Nat),x.w.heap[b.1]? =some (.cells arr e fr)∧RL ρ j row vals∧b.2+row.length≤arr.size∧ ∀(i:Nat) (y:Value),vals[i]? =some y→arr[b.2+i]? =some y
 | .mapx kn=>x.K b.1∧b.2=0∧ ∃arr clock m0,x.w.heap[b.1]? =some (.map arr clock)∧(zb6 arr∧Born arr clock)∧RX ρ j kn m0∧ ∀k o,(k,o)∈m0→zaU arr k=o
def ShsOk (ρ:Val) (j:J) (x:Cx):List (Nat×Nat)→List Sh→Prop
 | [], [] => True
 | b::bl,s::l=>ShOk ρ j x b s∧ShsOk ρ j x bl l
 | _,_=>False
def apart:List (Nat×Nat)→List Sh→Prop
 | b::bl,s::l=>(s.isRo=false→ ∀(i:Nat) (b':Nat×Nat) (s':Sh),bl[i]? =some b'→l[i]? =some s'→s'.isRo=false→b.1≠b'.1)∧apart bl l
 | _,_=>True
theorem ShsOk.get {ρ:Val} {j:J} {x:Cx}: ∀ {bl:List (Nat×Nat)} {l:List Sh},ShsOk ρ j x bl l→bl.length=l.length∧ ∀(i:Nat) (b:Nat×Nat) (s:Sh),bl[i]? =some b→l[i]? =some s→ShOk ρ j x b s
 | [], [], _=>⟨rfl,fun i b s h=>by cases h⟩
 | [], _::_,h=>h.elim
 | _::_,[],h=>h.elim
 | b::bl,s::l,h=>by
  obtain ⟨h1,h2⟩:=ShsOk.get h.2;refine ⟨by simp [h1],fun i b' s' e1 e2=> ?_⟩;cases i with
  | zero=>cases e1;cases e2;exact h.1
  | succ i=>exact h2 i b' s' (by simpa using e1) (by simpa using e2)
theorem apart.get: ∀ {bl:List (Nat×Nat)} {l:List Sh},apart bl l→ ∀(i i':Nat) (b b':Nat×Nat) (s s':Sh),i<i'→bl[i]? =some b→l[i]? =some s→bl[i']? =some b'→l[i']? =some s'→s.isRo=false→s'.isRo=false→b.1≠b'.1
 | [], l,_,i,i',b,b',s,s',_,h,_,_,_,_,_=>by cases h
 | b0::bl,[],_,i,i',b,b',s,s',_,_,h,_,_,_,_=>by cases h
 | b0::bl,s0::l,h,0,i'+1,b,b',s,s',_,h1,h2,h3,h4,h5,h6=>by
  cases h1;cases h2;exact h.1 h5 i' b' s' (by simpa using h3) (by simpa using h4) h6
 | b0::bl,s0::l,h,i+1,i'+1,b,b',s,s',hlt,h1,h2,h3,h4,h5,h6=>
  apart.get h.2 i i' b b' s s' (by omega) (by simpa using h1) (by simpa using h2) (by simpa using h3) (by simpa using h4) h5 h6
theorem zcB {bl:List (Nat×Nat)} {n:Nat} {L:Loc} (h:jOf bl n=some L): ∃k b,n=k+1∧bl[k]? =some b∧L=⟨b.1,b.2,0,none⟩:=by
 cases n with
 | zero=>cases h
 | succ k=>
  have h:(bl[k]?).map (fun b=>(⟨b.1,b.2,0,none⟩:Loc))=some L:=h;rw [Option.map_eq_some_iff] at h;obtain ⟨b,h1,h2⟩:=h;exact ⟨k,b,rfl,h1,h2.symm⟩
theorem zkG {ρ:Val} {x:Cx} {k:Nat} {bl:List (Nat×Nat)} {l:List Sh} (hK: ∀b,x.K b→b<x.w.heap.size) (ho:ShsOk ρ (jOf bl) x bl l) (ha:apart bl l) (hG:x.G k (jOf bl) x.w):Inv ρ x (jOf bl) (zaV k l) x.w:=by
 obtain ⟨hlen,hok⟩:=ho.get;have hget: ∀i,(zaV k l).m.get i=if 1≤i∧i<1+l.length then (l[i-1]?).map (·.obj i) else if i=0 then some (.gs k) else none:=fun i=>by
  show (zij l 1 (T.set .leaf 0 (.gs k))).get i=_;rw [zii,T.get_set];rfl
 have hat: ∀(q:Nat) (b:Nat×Nat),bl[q]? =some b→ ∃s,l[q]? =some s∧(zaV k l).m.get (q+1)=some (s.obj (q+1)):=fun q b hb=>by
  have hq:q<l.length:=by
   rw [←hlen];exact (List.getElem?_eq_some_iff.1 hb).1
  refine ⟨l[q],List.getElem?_eq_getElem hq,?_⟩;rw [hget,if_pos (by omega),Nat.add_sub_cancel,List.getElem?_eq_getElem hq];rfl
 have hblk: ∀(q:Nat) (b:Nat×Nat) (s:Sh),bl[q]? =some b→l[q]? =some s→b.1<x.w.heap.size:=fun q b s hb hs=>by
  have:=hok q b s hb hs;cases s with
  | own row=>obtain ⟨_,_,_,_,_,h,_⟩:=this;exact (Array.getElem?_eq_some_iff.1 h).1
  | ro row=>obtain ⟨_,_,_,_,_,h,_⟩:=this;exact (Array.getElem?_eq_some_iff.1 h).1
  | mapx kn=>obtain ⟨_,_,_,_,_,h,_⟩:=this;exact (Array.getElem?_eq_some_iff.1 h).1
 have hobj: ∀(q:Nat) (b:Nat×Nat) (s:Sh),bl[q]? =some b→l[q]? =some s→ObjR ρ (jOf bl) x x.w .leaf ⟨b.1,b.2,0,none⟩ (s.obj (q+1)):=fun q b s hb hs=>by
  have:=hok q b s hb hs;cases s with
  | own row=>
   obtain ⟨h1,h2,vals,arr,e,h3,h4,h5⟩:=this;refine ⟨rfl,by rw [if_pos rfl];exact .inr h1,fun _=>⟨arr,e,(0,0),h3,?_,⟨?_,fun hh=>by cases hh⟩,fun i hi=> ?_⟩⟩
   ·show b.2+(Vec.ofList row).n≤arr.size;rw [Vec.n_ofList,h2,Nat.zero_add];have hl:=h4.length;rcases Nat.eq_zero_or_pos row.length with h0|h0
    ·omega
    ·have h6:=h5 (row.length-1) _ (List.getElem?_eq_getElem (by omega));have:=(Array.getElem?_eq_some_iff.1 h6).1;omega
   ·show b.2+0*0≤arr.size;omega
   ·rw [Vec.n_ofList] at hi;rw [Vec.get_ofList row i hi];obtain ⟨y,h6,h7⟩:=h4.get i _ (List.getElem?_eq_getElem hi);exact ⟨y,by show arr[b.2+i]? =_;rw [h2,Nat.zero_add];exact h5 i y h6,h7⟩
  | ro row=>
   obtain ⟨h1,vals,arr,e,fr,h3,h4,h6,h5⟩:=this;refine ⟨rfl,?_,fun _=>⟨arr,e,fr,h3,?_,⟨?_,fun hh=>by cases hh⟩,fun i hi=> ?_⟩⟩
   ·rw [if_neg (by decide)];have:=(Array.getElem?_eq_some_iff.1 h3).1;rintro (h|h)
    ·have:x.w.heap.size≤b.1:=h;omega
    ·exact h1 h
   ·show b.2+(Vec.ofList row).n≤arr.size;rw [Vec.n_ofList];exact h6
   ·show b.2+0*0≤arr.size;omega
   ·rw [Vec.n_ofList] at hi;rw [Vec.get_ofList row i hi];obtain ⟨y,h7,h8⟩:=h4.get i _ (List.getElem?_eq_getElem hi);exact ⟨y,h5 i y h7,h8⟩
  | mapx kn=>
   obtain ⟨h1,h2,arr,clock,m0,h3,h4,h5,h6⟩:=this;obtain ⟨e1,e2⟩:=zfm h5;exact ⟨rfl,.inr h1,h2,arr,clock,arr,clock,m0,[],h3,h3,⟨h4.1,h4.2,e2 _⟩,by rw [e1];exact h5,rfl,h6,fun _=>rfl⟩
 refine ⟨Fr.refl x,fun n L h=> ?_,fun n L h _=> ?_,fun n o h=> ?_,fun n L h=> ?_,fun n m Ln Lm hne h1 h2 _ _ hb=> ?_,fun n v e g t sh ow h=> ?_,fun g y h=>(by cases h),fun n L v e g c sh h1 h2=> ?_,fun n L h _ how c e fr hc=> ?_,fun n L v e c sh h1 h2=> ?_,rfl,Nat.succ_pos _,fun o h=> ?_,?_⟩
 ·obtain ⟨q,b,rfl,hb,rfl⟩:=zcB h;show q+1<l.length+1;have:=(List.getElem?_eq_some_iff.1 hb).1;omega
 ·obtain ⟨q,b,rfl,hb,rfl⟩:=zcB h;obtain ⟨s,hs,_⟩:=hat q b hb;exact hblk q b s hb hs
 ·show n<l.length+1;rw [hget] at h;split at h
  ·omega
  ·split at h
   ·omega
   ·cases h
 ·obtain ⟨q,b,rfl,hb,rfl⟩:=zcB h;obtain ⟨s,hs,h1⟩:=hat q b hb;exact ⟨_,h1,hobj q b s hb hs⟩
 ·obtain ⟨q,b,rfl,hq,rfl⟩:=zcB h1;obtain ⟨q',b',rfl,hq',rfl⟩:=zcB h2;obtain ⟨s,hs,g1⟩:=hat q b hq;obtain ⟨s',hs',g2⟩:=hat q' b' hq';have hb:b.1=b'.1:=hb;have k1:=hok q b s hq hs;have k2:=hok q' b' s' hq' hs';have hro: ∀ {s:Sh} {b:Nat×Nat},ShOk ρ (jOf bl) x b s→s.isRo=false→x.K b.1:=fun {s b} h h'=>by
   cases s with
   | own=>exact h.1
   | ro=>cases h'
   | mapx=>exact h.1
  cases hr:s.isRo with
  | false=>
   cases hr':s'.isRo with
   | false=>
    rcases Nat.lt_or_gt_of_ne (show q≠q' from fun e=>hne (by rw [e])) with hlt|hlt
    ·exact absurd hb (ha.get q q' b b' s s' hlt hq hs hq' hs' hr hr')
    ·exact absurd hb.symm (ha.get q' q b' b s' s hlt hq' hs' hq hs hr' hr)
   | true=>
    have:=hro k1 hr;rw [hb] at this;cases s' with
    | own=>cases hr'
    | ro=>exact absurd this k2.1
    | mapx=>cases hr'
  | true=>
   cases s with
   | own=>cases hr
   | mapx=>cases hr
   | ro row=>
    cases s' with
    | ro row'=>exact ⟨_,_,_,_,_,_,_,_,_,_,_,_,g1,g2,rfl,fun h=>by cases h⟩
    | own=>exact absurd (hb▸k2.1) k1.1
    | mapx=>exact absurd (hb▸k2.1) k1.1
 ·rw [hget] at h;split at h
  ·rw [Option.map_eq_some_iff] at h;obtain ⟨s,_,h⟩:=h;cases s<;>cases h
  ·split at h<;>cases h
 ·obtain ⟨q,b,rfl,hb,rfl⟩:=zcB h1;obtain ⟨s,hs,g1⟩:=hat q b hb;rw [g1] at h2;cases s<;>cases h2;exact ⟨_,h1⟩
 ·obtain ⟨q,b,rfl,hb,rfl⟩:=zcB h;obtain ⟨s,hs,_⟩:=hat q b hb;have hlt:=hblk q b s hb hs;have hKb:x.K b.1:=by
   rcases how with h|h
   ·have:x.w.heap.size≤b.1:=h;omega
   ·exact h
  have k1:=hok q b s hb hs;cases s with
  | own row=>obtain ⟨_,_,_,_,_,h3,_⟩:=k1;rw [h3] at hc;cases hc;rfl
  | ro row=>exact absurd hKb k1.1
  | mapx kn=>obtain ⟨_,_,_,_,_,h3,_⟩:=k1;rw [h3] at hc;cases hc
 ·obtain ⟨q,b,rfl,hb,rfl⟩:=zcB h1;obtain ⟨s,hs,g1⟩:=hat q b hb;rw [g1] at h2;cases s<;>cases h2;exact (hok q b _ hb hs).2.1
 ·rw [hget,if_neg (by omega),if_pos rfl] at h;cases h;exact ⟨k,rfl⟩
 ·have:(zaV k l).gs=k:=by
   unfold Heap.gs;rw [hget,if_neg (by omega),if_pos rfl]
  rw [this];exact hG
structure Mv (S:Nat→Prop) (w w':World):Prop where
 os:w'.os=w.os
 tape:w'.tape=w.tape
 output:w'.output=w.output
 size:w.heap.size≤w'.heap.size
 block: ∀k,k<w.heap.size→ ¬S k→w'.heap[k]? =w.heap[k]?
theorem Mv.refl (S:Nat→Prop) (w:World):Mv S w w:=⟨rfl,rfl,rfl,Nat.le_refl _,fun _ _ _=>rfl⟩
theorem Mv.trans {S:Nat→Prop} {a b c:World} (h:Mv S a b) (k:Mv S b c):Mv S a c:=
 ⟨k.os.trans h.os,k.tape.trans h.tape,k.output.trans h.output,Nat.le_trans h.size k.size,fun j hj h1=>(k.block j (Nat.lt_of_lt_of_le hj h.size) h1).trans (h.block j hj h1)⟩
theorem Mv.mono {S S':Nat→Prop} {a b:World} (h:Mv S a b) (hs: ∀k,S k→S' k):Mv S' a b:=⟨h.os,h.tape,h.output,h.size,fun j hj h1=>h.block j hj (fun h2=>h1 (hs j h2))⟩
theorem Mv.of_below {S:Nat→Prop} {w w':World} (h:Below w.heap.size w w'):Mv S w w':=⟨h.os,h.tape,h.output,h.size,fun k hk _=>h.block k hk⟩
structure Ent where
 f:FuncId
 args:List AV
 gs:Nat
 base:Nat
 nopq:Nat
 res:AV
 gs':Nat
def zf9:Nat→Heap→Heap
 | 0,H=>H
 | n+1,H=>zf9 n (H.alloc .opq)
def zwD (k:Nat) (H:Heap):Heap:=
 match H with
 | ⟨m,nx,gw⟩=>match m.set 0 (.gs k) with
  | .leaf=>⟨.leaf,nx,gw⟩
  | .node a b c=>⟨.node a b c,nx,gw⟩
def Ent.heap (e:Ent) (H:Heap):Heap:=
 match Nat.beq e.gs e.gs' with
 | true=>zf9 e.nopq H
 | false=>zwD e.gs' (zf9 e.nopq H)
def Ent.fits (e:Ent) (f:FuncId) (args:List AV) (H:Heap):Bool:=
 match Nat.beq f e.f with
 | false=>false
 | true=>match AV.beqL args e.args,Nat.beq H.gs e.gs with
  | true,true=>(match e.nopq with
   | 0=>true
   | _+1=>Nat.beq H.nx e.base)
  | _,_=>false
def zaY:List Ent→FuncId→List AV→Heap→Option (List (AV×Heap))
 | [], _,_,_=>none
 | e::l,f,args,H=>match e.fits f args H with
  | true=>some [(e.res,e.heap H)]
  | false=>zaY l f args H
def jq (j:J) (n:Nat) (qs:List Value):J:=fun k=>if n≤k∧k<n+qs.length then some ⟨0,0,0,some (qs.getD (k-n) undef)⟩ else j k
theorem zt4 (j:J) (n:Nat):jq j n []=j:=by
 funext k;unfold jq;rw [if_neg (by simp)]
def zwb (P:Program) (ρ:Val) (x:Cx) (e:Ent):Prop:=
 Enters P e.f∧ ∀(j:J) (H:Heap) (w:World) (vals:List Value),Inv ρ x j H w→H.gs=e.gs→(e.nopq≠0→H.nx=e.base)→RL ρ j e.args vals→
  Calls P e.f vals.toArray w fun en w'=> ∃u qs,en= .returned u∧qs.length=e.nopq∧R ρ (jq j H.nx qs) e.res u∧x.G e.gs' (jq j H.nx qs) w'∧Mv (fun b=> ¬Mine j b∧x.own b) w w'
theorem znl: ∀(n:Nat) (H:Heap),(zf9 n H).nx=H.nx+n∧(zf9 n H).gw=H.gw∧ ∀k,(zf9 n H).m.get k=if H.nx≤k∧k<H.nx+n then some .opq else H.m.get k
 | 0,H=>⟨rfl,rfl,fun k=>by rw [if_neg (by omega)];rfl⟩
 | n+1,H=>by
  obtain ⟨h1,h2,h3⟩:=znl n (H.alloc .opq);rw [Heap.alloc_eq] at h1 h2 h3;have h1:(zf9 n ⟨H.m.set H.nx .opq,H.nx+1,H.gw⟩).nx=H.nx+1+n:=h1;refine ⟨?_,?_,fun k=> ?_⟩
  ·show (zf9 n (H.alloc .opq)).nx=_;rw [Heap.alloc_eq,h1];omega
  ·show (zf9 n (H.alloc .opq)).gw=_;rw [Heap.alloc_eq];exact h2
  ·show (zf9 n (H.alloc .opq)).m.get k=_;rw [Heap.alloc_eq,h3];show (if H.nx+1≤k∧k<H.nx+1+n then some Obj.opq else (H.m.set H.nx .opq).get k)=_;rw [T.get_set];by_cases h4:H.nx+1≤k∧k<H.nx+1+n
   ·rw [if_pos h4,if_pos (by omega)]
   ·rw [if_neg h4];by_cases h5:k=H.nx
    ·rw [if_pos h5,if_pos (by omega)]
    ·rw [if_neg h5,if_neg (by omega)]
theorem zsg (k:Nat) (H:Heap):zwD k H=⟨H.m.set 0 (.gs k),H.nx,H.gw⟩:=by
 obtain ⟨m,nx,gw⟩:=H;show (match m.set 0 (.gs k) with| .leaf=>(⟨.leaf,nx,gw⟩:Heap)| .node a b c=>⟨.node a b c,nx,gw⟩)=_;cases m.set 0 (.gs k)<;>rfl
theorem Ent.heap_eq (e:Ent) (H:Heap) (hn:0<H.nx) (hg:H.gs=e.gs):(e.heap H).nx=H.nx+e.nopq∧(e.heap H).gw=H.gw∧(e.heap H).gs=e.gs'∧(∀k,0<k→(e.heap H).m.get k=if H.nx≤k∧k<H.nx+e.nopq then some .opq else H.m.get k)∧
  ((e.heap H).m.get 0=H.m.get 0∨(e.heap H).m.get 0=some (.gs e.gs')):=by
 obtain ⟨h1,h2,h3⟩:=znl e.nopq H;unfold Ent.heap;split
 ·rename_i hb;have hb:=zaj hb;refine ⟨h1,h2,?_,fun k _=>h3 k,.inl (by rw [h3,if_neg (by omega)])⟩;unfold Heap.gs;rw [h3,if_neg (by omega)];rw [←hb,←hg];rfl
 ·rw [zsg];refine ⟨h1,h2,?_,fun k hk=> ?_,.inr (by show ((zf9 e.nopq H).m.set 0 _).get 0=_;exact T.get_set_same _ _ _)⟩
  ·unfold Heap.gs;rw [T.get_set_same]
  ·show ((zf9 e.nopq H).m.set 0 _).get k=_;rw [T.get_set_ne _ _ (by omega),h3]
section
variable {P:Program} {ρ:Val} {x:Cx} {j:J} {H:Heap} {w w':World}
theorem zwA (h:Inv ρ x j H w) (qs:List Value):Sub j (jq j H.nx qs):=fun n L e=>by
 unfold jq;rw [if_neg (by have:=h.dom n L e;omega)];exact e
theorem zdp (qs:List Value) {n:Nat} {L:Loc} (h:jq j H.nx qs n=some L):(j n=some L)∨(H.nx≤n∧n<H.nx+qs.length∧L.q≠none):=by
 unfold jq at h;split at h
 ·rename_i hc;cases h;exact .inr ⟨hc.1,hc.2,by simp⟩
 ·exact .inl h
theorem Inv.ent (h:Inv ρ x j H w) {e:Ent} {qs:List Value} (hg:H.gs=e.gs) (hl:qs.length=e.nopq) (hG:x.G e.gs' (jq j H.nx qs) w') (hm:Mv (fun b=> ¬Mine j b∧x.own b) w w'):
  Inv ρ x (jq j H.nx qs) (e.heap H) w'∧St j H (jq j H.nx qs) (e.heap H):=by
 obtain ⟨e1,e2,e3,e4,e5⟩:=e.heap_eq H h.nx0 hg;have hsub:=zwA h qs;have hold: ∀n L,j n=some L→(e.heap H).m.get n=H.m.get n:=fun n L hn=>by
  rw [e4 n (by have:=h.ne0 hn;omega),if_neg (by have:=h.dom n L hn;omega)]
 have hkeep: ∀n L,j n=some L→L.q=none→w'.heap[L.blk]? =w.heap[L.blk]? :=fun n L hn hq=>hm.block _ (h.blk n L hn hq) (fun hh=>hh.1 ⟨n,L,hn,hq,rfl⟩);refine ⟨⟨h.fr.then hm.os hm.output hm.tape hm.size (fun i hi ho=>hm.block i hi (fun hh=>ho hh.2)),fun n L hn=> ?_,fun n L hn hq=> ?_,fun n o hn=> ?_,fun n L hn=> ?_,fun n m Ln Lm hne h1 h2 q1 q2 hb=> ?_,fun n v es g t sh ow hn=> ?_,fun g y hy=> ?_,fun n L v es g c sh h1 h2=> ?_,fun n L hn hq ho c t fr hc=> ?_,fun n L v es c sh h1 h2=> ?_,?_,?_,fun o ho=> ?_,?_⟩,
  hsub,fun n L h1 h2=> ?_,fun n hp h1 h2=>⟨?_,by rw [e2]⟩,by rw [e1];omega⟩
 ·rw [e1];rcases zdp qs hn with hn|⟨_,h2,_⟩
  ·have:=h.dom n L hn;omega
  ·omega
 ·rcases zdp qs hn with hn|⟨_,_,h3⟩
  ·exact Nat.lt_of_lt_of_le (h.blk n L hn hq) hm.size
  ·exact absurd hq h3
 ·rw [e1];rcases Nat.eq_zero_or_pos n with h0|h0
  ·have:=h.nx0;omega
  ·rw [e4 n h0] at hn;split at hn
   ·omega
   ·have:=h.used n o hn;omega
 ·rcases zdp qs hn with hn|⟨h1,h2,h3⟩
  ·obtain ⟨o,h4,h5⟩:=h.obj n L hn;refine ⟨o,by rw [hold n L hn];exact h4,?_⟩;rw [e2];exact h5.grow hsub (fun hq=>hkeep n L hn hq)
  ·refine ⟨.opq,?_,h3⟩;rw [e4 n (by have:=h.nx0;omega),if_pos ⟨h1,by omega⟩]
 ·rcases zdp qs h1 with h1|⟨_,_,h3⟩
  ·rcases zdp qs h2 with h2|⟨_,_,h3⟩
   ·obtain ⟨vn,en,gn,cn,sn,on,vm,em,gm,cm,sm,om,g1,g2,g3⟩:=h.sep n m Ln Lm hne h1 h2 q1 q2 hb;exact ⟨vn,en,gn,cn,sn,on,vm,em,gm,cm,sm,om,by rw [hold n Ln h1];exact g1,by rw [hold m Lm h2];exact g2,by rw [e2];exact g3⟩
   ·exact absurd q2 h3
  ·exact absurd q1 h3
 ·rw [e1];rcases Nat.eq_zero_or_pos n with h0|h0
  ·subst h0;rcases e5 with e5|e5
   ·rw [e5] at hn;obtain ⟨kk,hk⟩:=h.z0 _ hn;cases hk
   ·rw [e5] at hn;cases hn
  ·rw [e4 n h0] at hn;split at hn
   ·cases hn
   ·have:=h.tim n v es g t sh ow hn;omega
 ·rw [e2] at hy;rw [e1];have:=h.gwt g y hy;omega
 ·rcases zdp qs h1 with h1|⟨h3,h4,_⟩
  ·rw [hold n L h1] at h2;obtain ⟨Lg,hLg⟩:=h.grp n L v es g c sh h1 h2;exact ⟨Lg,hsub _ _ hLg⟩
  ·rw [e4 n (by have:=h.nx0;omega),if_pos ⟨h3,by omega⟩] at h2;cases h2
 ·rcases zdp qs hn with hn|⟨_,_,h3⟩
  ·rw [hkeep n L hn hq] at hc;exact h.fz n L hn hq ho c t fr hc
  ·exact absurd hq h3
 ·rcases zdp qs h1 with h1|⟨h3,h4,_⟩
  ·rw [hold n L h1] at h2;exact h.off0 n L v es c sh h1 h2
  ·rw [e4 n (by have:=h.nx0;omega),if_pos ⟨h3,by omega⟩] at h2;cases h2
 ·unfold jq;rw [if_neg (by have:=h.nx0;omega)];exact h.n0
 ·rw [e1];have:=h.nx0;omega
 ·rcases e5 with e5|e5
  ·rw [e5] at ho;exact h.z0 o ho
  ·rw [e5] at ho;cases ho;exact ⟨_,rfl⟩
 ·rw [e3];exact hG
 ·rcases zdp qs h1 with h1|⟨h3,_,_⟩
  ·rw [h1] at h2;cases h2
  ·exact h3
 ·rw [e4 n hp,if_neg (by omega)]
theorem zkT {l:List Ent} (h: ∀e∈l,zwb P ρ x e):zpb P ρ x (zaY l):=by
 intro f args H r hr
 induction l with
 | nil=>cases hr
 | cons e l ih=>
  unfold zaY at hr;split at hr
  ·rename_i hf;cases hr;obtain ⟨h1,h2⟩:=h e (by simp);unfold Ent.fits at hf;split at hf
   ·cases hf
   rename_i hff;have hff:=zaj hff;subst hff;split at hf
   case h_2=>cases hf
   rename_i ha hgs;have ha:=AV.beqL_eq ha;have hgs:=zaj hgs;subst ha;refine ⟨h1,fun k hk j w vals hi hv=> ?_⟩;have hk:Ob.den ρ (k e.res (e.heap H)):=hk;refine Calls.mono (h2 j H w vals hi hgs (fun hn=> ?_) hv) fun en w' he=> ?_
   ·split at hf
    ·rename_i h0;exact absurd h0 hn
    ·exact zaj hf
   ·obtain ⟨u,qs,rfl,g1,g2,g3,g4⟩:=he;obtain ⟨g5,g6⟩:=hi.ent hgs g1 g3 g4;exact ⟨u,rfl,e.res,e.heap H,_,g2,g5,g6,hk⟩
  ·exact ih (fun e' he'=>h e' (by simp [he'])) hr
end
structure Gho where
 fact:Nat→(Nat→Option Value)→(Nat→Prop)→World→Prop
 loc: ∀k q q' F w w',fact k q F w→(∀n v,q n=some v→q' n=some v)→(∀b,F b→w'.heap[b]? =w.heap[b]?)→w.heap.size≤w'.heap.size→fact k q' F w'
def opqs (j:J) (n:Nat):Option Value:=(j n).bind (·.q)
def Gho.G (g:Gho) (k:Nat) (j:J) (w:World):Prop:= ∃F:Nat→Prop,(∀b,F b→b<w.heap.size∧ ¬Mine j b)∧g.fact k (opqs j) F w
theorem zs3 {j j':J} (h:Sub j j') {n:Nat} {v:Value} (hv:opqs j n=some v):opqs j' n=some v:=by
 unfold opqs at hv ⊢;rw [Option.bind_eq_some_iff] at hv;obtain ⟨L,h1,h2⟩:=hv;rw [h n L h1];exact h2
def cxOf (w:World) (K:Nat→Prop) (g:Gho):Cx:=⟨w,K,g.G,fun k j j' w w' hG hs hle hb hn=>by
 obtain ⟨F,h1,h2⟩:=hG;refine ⟨F,fun b hF=>⟨Nat.lt_of_lt_of_le (h1 b hF).1 hle,fun hm=> ?_⟩,g.loc _ _ _ _ _ _ h2 (fun n v hv=>zs3 hs hv) (fun b hF=>hb b (h1 b hF).1 (h1 b hF).2) hle⟩;rcases hn b hm with hm|hm
 ·exact (h1 b hF).2 hm
 ·have:=(h1 b hF).1;omega⟩
def Gho.none:Gho:=⟨fun _ _ _ _=>True,fun _ _ _ _ _ _ _ _ _ _=>trivial⟩
theorem zlJ {j:J} {n:Nat} {qs:List Value} {b:Nat} (hj: ∀k,n≤k→j k=none) (h:Mine (jq j n qs) b):Mine j b:=by
 obtain ⟨k,L,h1,h2,h3⟩:=h;unfold jq at h1;split at h1
 ·cases h1;cases h2
 ·exact ⟨k,L,h1,h2,h3⟩
theorem ztq {P:Program} {ρ:Val} {w0:World} {K:Nat→Prop} {g:Gho} {e:Ent} (he:Enters P e.f)
    (h: ∀(j:J) (w:World) (vals:List Value) (F:Nat→Prop) (n:Nat),RL ρ j e.args vals→(∀k,n≤k→j k=none)→(e.nopq≠0→n=e.base)→(∀b,F b→b<w.heap.size)→w0.heap.size≤w.heap.size→g.fact e.gs (opqs j) F w→(∀i,i<w0.heap.size→ ¬K i→w.heap[i]? =w0.heap[i]?)→
      Calls P e.f vals.toArray w fun en w'=> ∃u qs F',en= .returned u∧qs.length=e.nopq∧R ρ (jq j n qs) e.res u∧g.fact e.gs' (opqs (jq j n qs)) F' w'∧(∀b,F' b→b<w'.heap.size∧(F b∨w.heap.size≤b))∧Mv (fun b=>F b∧(w0.heap.size≤b∨K b)) w w'):
    zwb P ρ (cxOf w0 K g) e:=by
  refine ⟨he,fun j H w vals hi hgs hb hv=> ?_⟩;have hG:=hi.gho;rw [hgs] at hG;obtain ⟨F,h1,h2⟩:=hG;have hnone: ∀k,H.nx≤k→j k= .none:=fun k hk=>by
    cases hjk:j k with
    | none=>rfl
    | some L=>have:=hi.dom k L hjk;omega
  refine Calls.mono (h j w vals F H.nx hv hnone hb (fun b hF=>(h1 b hF).1) hi.fr.size h2 hi.fr.old) fun en w' he'=> ?_;obtain ⟨u,qs,F',rfl,g1,g2,g3,g4,g5⟩:=he';refine ⟨u,qs,rfl,g1,g2,⟨F',fun b hF'=>⟨(g4 b hF').1,fun hm=> ?_⟩,g3⟩,g5.mono fun b hb=>⟨(h1 b hb.1).2,hb.2⟩⟩;have hm:=zlJ hnone hm;rcases (g4 b hF').2 with hF|hF
  · exact (h1 b hF).2 hm
  · obtain ⟨k,L,k1,k2,k3⟩:=hm;have:=hi.blk k L k1 k2;omega
end Go.Dw
end
