/-
  Proved: laws on the way to 'SdriveHoldsProof' (texts DwLight DwHeavy DwAppend); no condition.
-/
import Derived.Test.YtaichlekaoefpaaGreatM1
import Derived.Laws.StructEq
import Derived.Laws.Strings
import Derived.Laws.Append
set_option linter.unusedSimpArgs false
set_option linter.unusedVariables false
set_option maxHeartbeats 4000000
noncomputable section
namespace Go.Dw
def DR (ρ:Val) (j:J):AV→List Deferred→Prop
 | v,[]=>v= .tup []
 | v,d::ds=> ∃g args rest cap,v= .tup [.func g [] args,rest]∧d.target= .fn (.func g) cap∧RL ρ j args (d.args++cap).toList∧DR ρ j rest ds
noncomputable def zaD (env:T AV) (t:Nat):AV:=match env.get t with|some v=>v|none=>zbq
structure ER (ρ:Val) (j:J) (N:Nat) (env:T AV) (a:Act):Prop where
 size:a.tmps.size=N
 le:N≤zaZ
 get: ∀t,t≠zaZ→zaD env t= .junk∨R ρ j (zaD env t) (a.tmps.getD t undef)
 dfr:DR ρ j (zaD env zaZ) a.defers
theorem DR.mono {ρ:Val} {j j':J} (h:Sub j j'): ∀ {ds:List Deferred} {v:AV},DR ρ j v ds→DR ρ j' v ds
 | [], _,r=>r
 | _::_,_,r=>let ⟨g,args,rest,cap,e1,e2,e3,e4⟩:=r;⟨g,args,rest,cap,e1,e2,e3.mono h,DR.mono h e4⟩
theorem ER.mono {ρ:Val} {j j':J} {N:Nat} {env:T AV} {a:Act} (h:ER ρ j N env a) (hs:Sub j j'):ER ρ j' N env a:=
 ⟨h.size,h.le,fun t ht=>(h.get t ht).imp_right (·.mono hs),h.dfr.mono hs⟩
section
variable {P:Program} {ρ:Val} {w0:Cx} {j:J} {H:Heap} {w:World} {N:Nat} {env:T AV} {a:Act}
theorem zag (he:ER ρ j N env a) {x:Operand} {v:AV} (h:opd env x=some v):R ρ j v (a.eval x):=by
 unfold opd at h;split at h
 ·rename_i t;split at h
  ·rename_i hb;rw [Nat.blt_eq] at hb;have:=he.get t (by omega);unfold zaD at this;show R ρ j v (a.tmps.getD t undef);cases hg:env.get t with
   | none=>
    rw [hg] at h this;cases h;exact this.resolve_left (by simp [zbq])
   | some v1=>
    rw [hg] at h this;by_cases hv:v1= .junk
    ·subst hv;cases h
    ·have e:v1=v:=by cases v1<;>first|exact Option.some.inj h|exact absurd rfl hv
     rw [←e];exact this.resolve_left hv
  ·cases h
 ·exact zle h
 ·cases h;exact ⟨[],[],rfl,rfl,rfl⟩
 ·cases h
theorem zd7 (he:ER ρ j N env a): ∀ {xs:List Operand} {vs:List AV},opds env xs=some vs→RL ρ j vs (xs.map a.eval)
 | [], vs,h=>by unfold opds at h;cases h;rfl
 | x::xs,vs,h=>by
  unfold opds at h;split at h
  ·cases h
  ·rename_i v hv;split at h
   ·cases h
   ·rename_i m hm;cases h;exact ⟨_,_,rfl,zag he hv,zd7 he hm⟩
theorem zbT (he:ER ρ j N env a) {x:Operand} {n:Nat} (h:natA env x=some n): ∃k,a.eval x= .int k (n:Int):=by
 unfold natA at h;split at h
 ·rename_i k m hx;cases h;exact ⟨k,zag he hx⟩
 ·cases h
def LS (P:Program) (ρ:Val) (j:J) (w:World) (a:Act) (o:Oper) (v:AV):Prop:= ∃v',(execOp a.eval o).run P w= .ok (.value v') w∧R ρ j v v'
variable {o:Oper} {v:AV}
theorem zhc (he:ER ρ j N env a) {x:Operand} (ho:o.op= .move x∨o.op= .assign x) (h:zvB x env H=some v):LS P ρ j w a o v:=by
 refine ⟨a.eval x,?_,zag he h⟩;rcases ho with ho|ho<;>simp only [execOp,ho,Sem.run_pure]
theorem zbj (b:SB):(mkNot b).den ρ= !(b.den ρ):=by
 unfold mkNot;split<;>simp [SB.den]
theorem zqG (x y:SB):(zvx x y).den ρ=(x.den ρ==y.den ρ):=by
 unfold zvx;split<;>simp [SB.den,zbj]
theorem zb2 (x y:SB):(mkAnd x y).den ρ=(x.den ρ&&y.den ρ):=by
 unfold mkAnd;split<;>simp [SB.den]
theorem zq8 {s:SB} {b:Bool} {y:AV} {u:Value} (h:R ρ j y u) (hs:s.den ρ=b):R ρ j (given s b y) u:=by
 unfold given;split
 ·rename_i t;split
  ·rename_i he;have h:u= .bool (t.den ρ):=h;show u= .bool (SB.den ρ (.lit b));rw [h,SB.eqv_eq he,hs];rfl
  ·exact h
 ·exact h
theorem zqv (s x y:SB):(zvl s x y).den ρ=if s.den ρ=true then x.den ρ else y.den ρ:=by
 unfold zvl;split
 ·rename_i h;rw [zb2,SB.eqv_eq h];cases s.den ρ<;>simp
 ·split
  ·rename_i h;rw [zbj,zb2,zbj,zbj,SB.eqv_eq h];cases s.den ρ<;>simp
  ·rw [zbj,zb2,zbj,zbj,zb2,zb2,zbj];cases s.den ρ<;>simp
theorem zvm {s:SB} {x y v:AV} {u1 u2:Value} (h1:R ρ j x u1) (h2:R ρ j y u2) (h:zvn s x y=some v):R ρ j v (if s.den ρ=true then u1 else u2):=by
 unfold zvn at h;split at h
 ·rename_i c w;split at h
  case h_2=>cases h
  rename_i hc;cases h;have hs:s.den ρ=false:=by rw [←SB.eqv_eq hc];exact h1.2
  rw [if_neg (by rw [hs];decide)];exact zq8 h2 hs
 ·split at h
  ·rename_i c w;split at h
   case h_2=>cases h
   rename_i hc;cases h;have hs:s.den ρ=true:=by rw [←SB.eqv_eq hc];exact h2.2
   rw [if_pos hs];exact zq8 h1 hs
  ·split at h
   case h_2=>cases h
   cases h;have h1:u1= .bool _:=h1;have h2:u2= .bool _:=h2;show _=Value.bool _;rw [zqv,h1,h2];cases s.den ρ<;>simp
  ·cases h
theorem zlT (he:ER ρ j N env a) {c x y:Operand} (ho:o.op= .pick c x y) (h:ztd c x y env H=some v):LS P ρ j w a o v:=by
 unfold ztd at h;split at h
 ·rename_i hc;have h1:=zag he hc;refine ⟨a.eval x,?_,zag he h⟩;simp only [R,SB.den] at h1;simp [execOp,ho,h1,asBool]
 ·rename_i hc;have h1:=zag he hc;refine ⟨a.eval y,?_,zag he h⟩;simp only [R,SB.den] at h1;simp [execOp,ho,h1,asBool]
 ·rename_i s _ _ hc;have h1:=zag he hc;split at h
  case h_2=>cases h
  rename_i p q hp hq;have h2:=zag he hp;have h3:=zag he hq;refine ⟨if s.den ρ=true then a.eval x else a.eval y,?_,zvm h2 h3 h⟩;simp only [R] at h1;cases hs:s.den ρ<;>simp [execOp,ho,h1,asBool,hs]
 ·cases h
theorem zqD: ∀(l:List AV) (i:Nat),nthA l i=l[i]?
 | [], i=>by simp [nthA]
 | a::l,0=>rfl
 | a::l,i+1=>by show nthA l i=_;rw [zqD l i];simp
theorem zhL (he:ER ρ j N env a) {x:Operand} {i:Nat} (ho:o.op= .extract x i) (h:zgr x i env H=some v):LS P ρ j w a o v:=by
 unfold zgr at h;split at h
 ·rename_i l hx;obtain ⟨m,h1,h2⟩:=zag he hx;rw [zqD] at h;obtain ⟨u,h3,h4⟩:=h2.get i v h;refine ⟨u,?_,h4⟩;simp [execOp,ho,h1,Instr.extract,h3]
 ·cases h
theorem zhb (he:ER ρ j N env a) {x:Operand} (ho:o.op= .nilCheck x) (h:ze3 x env H=some v):LS P ρ j w a o v:=by
 unfold ze3 at h;split at h
 ·cases h
 ·cases h
 ·cases h
 ·cases h
 ·cases h
 ·cases h
 ·cases h
 ·rename_i h1 h2 h3 h4 h5 h6 h7;have hr:=zag he h;refine ⟨a.eval x,?_,hr⟩;simp only [execOp,ho];cases v<;>simp only [R] at hr
  case nilp=>exact absurd h h1
  case nili=>exact absurd h h2
  case nilf=>exact absurd h h3
  case cst=>exact absurd h (h4 _ _)
  case opq=>exact absurd h (h5 _ _)
  case nun=>exact absurd h (h6 _ _)
  case sx=>exact absurd h (h7 _ _ _ _)
  case str=>obtain ⟨_,e⟩:=hr;rw [e];rfl
  case ptr=>obtain ⟨L,_,e⟩:=hr;rw [e];rfl
  case sl=>obtain ⟨L,_,_,e⟩:=hr;rw [e];rfl
  case emp=>obtain ⟨L,c,e⟩:=hr;rw [e];rfl
  case slu=>obtain ⟨b,l,c,e,_⟩:=hr;rw [e];rfl
  case sla=>obtain ⟨b,l,c,e⟩:=hr;rw [e];rfl
  case map=>obtain ⟨L,_,e⟩:=hr;rw [e];rfl
  case func=>obtain ⟨l,m,e,_,_⟩:=hr;rw [e];rfl
  case iface=>obtain ⟨y,e,_⟩:=hr;rw [e];rfl
  case agg=>obtain ⟨m,e,_⟩:=hr;rw [e];rfl
  case tup=>obtain ⟨m,e,_⟩:=hr;rw [e];rfl
  all_goals rw [hr];rfl
theorem zuN {t:TypeId} {n:Nat} (h:szOf P t=some n): ∃i,P.info? t=some i∧i.size=n:=by
 unfold szOf at h;split at h
 ·rename_i i hi;cases h;exact ⟨i,hi,rfl⟩
 ·cases h
theorem run_sizeOf {t:TypeId} {n:Nat} (h:szOf P t=some n):(sizeOf t).run P w= .ok n w:=by
 obtain ⟨i,h1,h2⟩:=zuN h;simp [sizeOf,typeInfo,h1,h2]
theorem run_underlying {t:TypeId} {d:TypeDesc} (h:P.underlying t=some d):(underlying t).run P w= .ok d w:=by
 simp [underlying,h]
theorem zeP {t:TypeId} {b:Bool} (h:znz P t=some b):(isAgg t).run P w= .ok b w:=by
 unfold znz at h;split at h
 ·rename_i hu;cases h;simp [isAgg,run_underlying hu]
 ·rename_i hu;cases h;simp [isAgg,run_underlying hu]
 ·rename_i d h1 h2 hu;cases h;simp only [isAgg,Sem.run_bind,run_underlying hu,Result.andThen_ok];cases d<;>first|rfl|(exact absurd hu (h1 _))|(exact absurd hu (h2 _ _))
 ·cases h
theorem zgc (he:ER ρ j N env a) {t:TypeId} {x:Operand} {f:Nat} (ho:o.op= .fieldAddr t x f) (h:zed P t x f env H=some v):LS P ρ j w a o v:=by
 unfold zed at h;split at h
 ·rename_i off n p hf hx;cases h;obtain ⟨L,h1,h2⟩:=zag he hx;unfold znF at hf;split at hf
  ·rename_i fd hfd;split at hf
   ·rename_i k hs;cases hf;unfold zhm at hfd;split at hfd
    ·rename_i fs hu;refine ⟨.pointer (some ⟨L.blk,L.off+(p+fd.offset),none⟩),?_,L,h1,rfl⟩;simp only [execOp,ho,h2,Instr.fieldAt,Sem.run_bind,run_underlying hu,Result.andThen_ok,hfd,Instr.sureAddr,Sem.run_pure,fieldPlace,run_sizeOf hs];simp [addr_add,Nat.add_assoc]
    ·cases hfd
   ·cases hf
  ·cases hf
 ·cases h
theorem zku (hi:Inv ρ w0 j H w) {t:TypeId} {n off:Nat} {L:Loc} {r:Vec} {v:AV} (hj:j n=some L) (hr:H.row n=some r) (h:loadAt (zi9 P t) r off=some v):
  ∃ v',(loadVar t ⟨L.blk,L.off+off,none⟩).run P w= .ok v' w∧R ρ j v v':=by
 unfold zi9 at h;split at h
 ·rename_i s ha hs;unfold loadAt at h;simp only at h;split at h
  ·rename_i hb;cases h;rw [Nat.blt_eq] at hb;obtain ⟨x,h1,h2⟩:=hi.cell hj hr hb;exact ⟨x,by simp [loadVar,zeP ha,h1],h2⟩
  ·cases h
 ·rename_i s ha hs;unfold loadAt at h;simp only at h;split at h
  ·rename_i hb;cases h;have hb:off+s≤r.n:=Nat.le_of_ble_eq_true hb;obtain ⟨xs,h1,h2⟩:=hi.loadCells (P:=P) hj hr hb;exact ⟨.agg xs.toArray,by simp [loadVar,zeP ha,run_sizeOf hs,h1],xs,rfl,h2⟩
  ·cases h
 ·simp [loadAt] at h
theorem zlU (hi:Inv ρ w0 j H w) (he:ER ρ j N env a) {t:TypeId} {x:Operand} (ho:o.op= .load t x) (h:zqR P t x env H=some v):LS P ρ j w a o v:=by
 unfold zqR at h;split at h
 ·rename_i n off hx;obtain ⟨L,h1,h2⟩:=zag he hx;split at h
  ·rename_i r hr;obtain ⟨v',h3,h4⟩:=zku (P:=P) hi h1 hr h;refine ⟨v',?_,h4⟩;simp only [execOp,ho,h2,Instr.loadAt,Sem.run_bind,Instr.sureAddr,Sem.run_pure,Result.andThen_ok,h3]
  ·cases h
 ·cases h
theorem zkn (o:BinOp) (x y:SE):(zqF o x y).den ρ=zem o (x.den ρ) (y.den ρ):=by
 unfold zqF;split
 ·simp [SB.den,SE.den,zvX]
 ·exact zsp o _ _
theorem zoI (k:IntKind) (x:SE):(mkWrap k x).den ρ=k.wrap (x.den ρ):=by
 unfold mkWrap;split
 ·rename_i n;have e:=zgf k n;split<;>simp_all [zbK,SE.den]
 ·exact zpU k _
theorem zq0 {o:BinOp} {k:IntKind} {x y z:Int} (h:intF o k x y=some z):zl0 o=false∧(o= .quo∨o= .rem→y≠0)∧(zhf o=true→0≤y):=by
 cases o<;>simp only [intF] at h<;>try (cases h;done)
 case quo=>refine ⟨rfl,fun _ hy=> ?_,fun hh=>by cases hh⟩;subst hy;simp [eqI] at h
 case rem=>refine ⟨rfl,fun _ hy=> ?_,fun hh=>by cases hh⟩;subst hy;simp [eqI] at h
 case shl=>
  refine ⟨rfl,fun hh=>by simp at hh,fun _=> ?_⟩;split at h
  ·exact Int.natCast_nonneg _
  ·cases h
 case shr=>
  refine ⟨rfl,fun hh=>by simp at hh,fun _=> ?_⟩;split at h
  ·exact Int.natCast_nonneg _
  ·cases h
 all_goals exact ⟨rfl,(fun hh=>by simp at hh),fun hh=>by cases hh⟩
theorem zgo {o:BinOp} {k:IntKind} {x y c:SE} (h:mkInt o k x y=some c):
  c.den ρ=zcq o k (x.den ρ) (y.den ρ)∧zl0 o=false∧(o= .quo∨o= .rem→y.den ρ≠0)∧(zhf o=true→0≤y.den ρ):=by
 unfold mkInt at h;split at h
 ·rename_i n m;split at h
  ·rename_i z hz;rw [zbK] at h;cases h;exact ⟨(zq1 hz).symm,zq0 hz⟩
  ·rename_i z hz;rw [zbK] at h;cases h;exact ⟨(zq1 hz).symm,zq0 hz⟩
  ·cases h
 ·rename_i m _;split at h
  all_goals first|(cases h;done)|skip
  case h_8=>
   split at h
   ·cases h
   ·rename_i hq;cases h;refine ⟨zcx _ _ _ _,rfl,fun _ hy=> ?_,fun hh=>by cases hh⟩;simp only [SE.den] at hy;rw [hy] at hq;simp [eqI] at hq
  case h_9=>
   split at h
   ·cases h
   ·rename_i hq;cases h;refine ⟨zcx _ _ _ _,rfl,fun _ hy=> ?_,fun hh=>by cases hh⟩;simp only [SE.den] at hy;rw [hy] at hq;simp [eqI] at hq
  case h_10=>
   split at h
   ·cases h;exact ⟨zcx _ _ _ _,rfl,(fun hh=>by simp at hh),fun _=>by simp [SE.den]⟩
   ·cases h
  case h_11=>
   split at h
   ·cases h;exact ⟨zcx _ _ _ _,rfl,(fun hh=>by simp at hh),fun _=>by simp [SE.den]⟩
   ·cases h
  all_goals (cases h;exact ⟨zcx _ _ _ _,rfl,(fun hh=>by simp at hh),fun hh=>by cases hh⟩)
 ·have pos: ∀ {q r:Nat},bnd y=some (q,r)→Nat.blt 0 q=true→y.den ρ≠0:=fun {q r} hb hq hy=>by
   obtain ⟨n,h1,h2,_⟩:=zeE (ρ:=ρ) hb;rw [Nat.blt_eq] at hq;rw [hy] at h1;have h1:(0:Int)=(n:Int):=h1;omega
  split at h
  case h_1=>
   split at h
   case h_2=>cases h
   rename_i hb;split at h
   case h_2=>cases h
   rename_i hq;cases h;exact ⟨zcx _ _ _ _,rfl,fun _=>pos hb hq,fun hh=>by cases hh⟩
  case h_2=>
   split at h
   case h_2=>cases h
   rename_i hb;split at h
   case h_2=>cases h
   rename_i hq;cases h;exact ⟨zcx _ _ _ _,rfl,fun _=>pos hb hq,fun hh=>by cases hh⟩
  all_goals first|(cases h;done)|(cases h;exact ⟨zcx _ _ _ _,rfl,(fun hh=>by simp at hh),fun hh=>by cases hh⟩)
theorem zeQ {o:BinOp} {t:TypeId} {k k':IntKind} {x y:Int} (hk:zhf o=false→k=k') (hc:zl0 o=false) (h0:o= .quo∨o= .rem→y≠0) (hs:zhf o=true→0≤y):
  (binOp o t (.int k x) (.int k' y)).run P w= .ok (.int k (zcq o k x y)) w:=by
 cases o<;>simp only [zl0,Bool.true_eq_false] at hc
 case shl=>
  have:=hs rfl;simp only [binOp,Op.shift,if_neg (show¬y<0 by omega)];rfl
 case shr=>
  have:=hs rfl;simp only [binOp,Op.shift,if_neg (show¬y<0 by omega)];rfl
 case quo=>obtain rfl:=hk rfl;simp [binOp,Op.intDiv,h0 (.inl rfl),zcq]
 case rem=>obtain rfl:=hk rfl;simp [binOp,Op.intDiv,h0 (.inr rfl),zcq]
 all_goals
  obtain rfl:=hk rfl;simp [binOp,Op.intArith,Op.intBits,zcq,zct]
theorem ziS {o:BinOp} {t:TypeId} {k:IntKind} {x y:Int} (hc:zl0 o=true):
  (binOp o t (.int k x) (.int k y)).run P w= .ok (.bool (zem o x y)) w:=by
 cases o<;>simp only [zl0,Bool.false_eq_true] at hc<;>simp [binOp,Op.intCmp,zem]
theorem zaC {o:BinOp} {t:TypeId} {x y:Operand} {u v:Value} (h1:u= .nilIface→v= .nilIface→(match isC x with|true=>true|false=>isC y)=true) (h2: ∀xs ys,u= .agg xs→v= .agg ys→P.eqGuardType P.depth t=false):
  (eqGuard o t x y u v).run P w= .ok () w:=by
 unfold eqGuard;cases o
 case eql=>
  simp only [Bool.not_true,Bool.false_eq_true,if_false];split
  ·have:=h1 rfl rfl;cases x<;>cases y<;>first|rfl|(simp [isC] at this)
  ·have:=h2 _ _ rfl rfl;simp [this]
  ·rfl
 case neq=>
  simp only [Bool.not_true,Bool.false_eq_true,if_false];split
  ·have:=h1 rfl rfl;cases x<;>cases y<;>first|rfl|(simp [isC] at this)
  ·have:=h2 _ _ rfl rfl;simp [this]
  ·rfl
 all_goals rfl
theorem RL.take: ∀ {n:Nat} {l m:List AV} {vs:List Value},RL ρ j l vs→takeN n l=some m→RL ρ j m (vs.take n)∧n≤vs.length
 | 0,l,m,vs,_,h=>by unfold takeN at h;cases h;exact ⟨rfl,Nat.zero_le _⟩
 | n+1,[],m,vs,_,h=>by unfold takeN at h;cases h
 | n+1,x::l,m,_,r,h=>by
  obtain ⟨v,vs,rfl,r1,r2⟩:=r;unfold takeN at h;split at h
  ·rename_i m' hm;cases h;obtain ⟨h1,h2⟩:=RL.take r2 hm;exact ⟨⟨_,_,by simp,r1,h1⟩,by simp;omega⟩
  ·cases h
theorem RL.drop: ∀ {n:Nat} {l:List AV} {vs:List Value},RL ρ j l vs→RL ρ j (zmb n l) (vs.drop n)
 | 0,l,vs,r=>by unfold zmb;simpa using r
 | n+1,[],vs,r=>by have e:vs= []:=r;subst e;unfold zmb;simpa using r
 | n+1,x::l,_,r=>by
  obtain ⟨v,vs,rfl,r1,r2⟩:=r;unfold zmb;simpa using RL.drop r2
theorem zbS {t:TypeId} {cs:List AV} {vs:Array Value} {off:Nat} {x:AV} (h:zf8 P t cs off=some x) (hr:RL ρ j cs vs.toList):
  ∃ y,(part t vs off).run P w= .ok y w∧R ρ j x y:=by
 unfold zf8 at h;split at h
 ·rename_i n ha hs;split at h
  ·rename_i l hl;cases h;obtain ⟨h1,h2⟩:=RL.take (hr.drop (n:=off)) hl;refine ⟨.agg (vs.extract off (off+n)),by simp only [part,Sem.run_bind,zeP ha,Result.andThen_ok,if_true,run_sizeOf hs,Sem.run_pure],(vs.extract off (off+n)).toList,by rw [Array.toArray_toList],?_⟩;have e:(vs.toList.drop off).take n=(vs.extract off (off+n)).toList:=by
    simp [Array.toList_extract,List.extract_eq_take_drop]
   rw [e] at h1;exact h1
  ·cases h
 ·rename_i ha;split at h
  ·rename_i x' l hl;cases h;have h1:=hr.drop (n:=off);rw [hl] at h1;obtain ⟨v,m,h2,h3,_⟩:=h1;have h4:vs[off]? =some v:=by
    have:(vs.toList.drop off)[0]? =some v:=by rw [h2];rfl
    simpa using this
   exact ⟨v,by simp [part,zeP ha,h4],h3⟩
  ·cases h
 ·cases h
theorem zmn (hi:Inv ρ w0 j H w) {n m:Nat} {L M:Loc} (hn:j n=some L) (hm:j m=some M) (h:apartA H n m=true):
  L.blk≠M.blk∧(∃a e,w.heap[L.blk]? =some (.cells a e (0,0)))∧(∃a e,w.heap[M.blk]? =some (.cells a e (0,0))):=by
 unfold apartA at h;split at h
 case h_2=>cases h
 rename_i v1 e1 g1 c1 s1 v2 e2 g2 c2 s2 h1 h2;split at h
 ·cases h
 ·rename_i hg;split at h
  case h_2=>cases h
  rename_i r1 r2 hr1 hr2;have base: ∀k Lk v e g c s,j k=some Lk→H.m.get k=some (.cells v e g c s true)→w0.own Lk.blk:=fun k Lk v e g c s ek hk=>by
   obtain ⟨o,h3,h4⟩:=hi.obj k Lk ek;rw [hk] at h3;cases h3;have:=h4.2.1;rwa [if_pos rfl] at this
  refine ⟨fun hb=> ?_,?_,?_⟩
  ·have hne:n≠m:=fun e=>by subst e;rw [h1] at h2;cases h2;rw [Nat.beq_refl] at hg;cases hg
   obtain ⟨_,_,_,_,_,_,_,_,_,_,_,_,h3,h4,h5,h6⟩:=hi.sep n m L M hne hn hm (hi.qrow hn h1) (hi.qrow hm h2) hb;rw [h1] at h3;rw [h2] at h4;cases h3;cases h4;have:=(h6 rfl).1;subst this;rw [Nat.beq_refl] at hg;cases hg
  ·obtain ⟨arr,e,fr,h3,_⟩:=hi.row hn hr1;have:=hi.fz _ _ hn (hi.qrow hn h1) (base n L _ _ _ _ _ hn h1) _ _ _ h3;subst this;exact ⟨arr,e,h3⟩
  ·obtain ⟨arr,e,fr,h3,_⟩:=hi.row hm hr2;have:=hi.fz _ _ hm (hi.qrow hm h2) (base m M _ _ _ _ _ hm h2) _ _ _ h3;subst this;exact ⟨arr,e,h3⟩
theorem zeO {p q:Addr} (h:p.block≠q.block) {a1 a2:Array Value} {e1 e2:TypeId} (h1:w.heap[p.block]? =some (.cells a1 e1 (0,0))) (h2:w.heap[q.block]? =some (.cells a2 e2 (0,0))):
  (sameAddr p q).run P w= .ok false w:=by
 have hb:(p.block==q.block)=false:=by simpa using h
 have f1: ∀i,w.frozen? ⟨p.block,i,none⟩=false:=fun i=>by simp [World.frozen?,h1]
 have f2: ∀i,w.frozen? ⟨q.block,i,none⟩=false:=fun i=>by simp [World.frozen?,h2]
 have f1':w.frozen? p=false:=by simp [World.frozen?,h1]
 have f2':w.frozen? q=false:=by simp [World.frozen?,h2]
 have s1:w.shape? p.block=some (e1,a1.size):=by simp [World.shape?,h1]
 have s2:w.shape? q.block=some (e2,a2.size):=by simp [World.shape?,h2]
 simp [sameAddr,hb,f1',f2',noView,viewAt,s1,s2,mayBeOne,stringish,f1,f2]
theorem zpv {a b:List Nat} (ha: ∀x∈a,x<256) (hb: ∀x∈b,x<256) (h:a.map UInt8.ofNat=b.map UInt8.ofNat):a=b:=by
 have key: ∀l:List Nat,(∀x∈l,x<256)→(l.map UInt8.ofNat).map (·.toNat)=l:=fun l hl=>by
  rw [List.map_map]
  conv=>rhs;rw [←List.map_id l]
  apply List.map_congr_left;intro x hx;simp only [Function.comp,UInt8.toNat_ofNat',id];have:=hl x hx;omega
 rw [←key a ha,h,key b hb]
theorem bytes_beq {a b:List Nat} (ha: ∀x∈a,x<256) (hb: ∀x∈b,x<256):
  ((⟨(a.map UInt8.ofNat).toArray⟩:ByteArray)==⟨(b.map UInt8.ofNat).toArray⟩)=zcL a b:=by
 show ((a.map UInt8.ofNat).toArray==(b.map UInt8.ofNat).toArray)=_;rw [zlI,Bool.eq_iff_iff];simp only [beq_iff_eq,decide_eq_true_eq];constructor
 ·intro h;exact zpv ha hb (by simpa using congrArg Array.toList h)
 ·rintro rfl;rfl
def EqS (P:Program) (ρ:Val) (j:J) (w:World) (d:Nat) (t:TypeId) (x y:AV) (b:SB):Prop:=
 ∀ u v,R ρ j x u→R ρ j y v→(Op.equalIn d t u v).run P w= .ok (b.den ρ) w
def fieldStep (d:Nat) (us vs:Array Value) (f:Field) (_:Option Bool×Unit):Sem (ForInStep (Option Bool×Unit)):=
  if f.name ≠ "_" then do
    let x←part f.type us f.offset
    let y←part f.type vs f.offset
    let r←Op.equalIn d f.type x y
    if (!r)=true then pure (ForInStep.done (some false,())) else pure (ForInStep.yield (none,()))
  else pure (ForInStep.yield (none,()))
theorem zcN {eq:TypeId→AV→AV→Option SB} {d:Nat} (heq: ∀t x y b,eq t x y=some b→EqS P ρ j w d t x y b) {us vs:Array Value} {xs ys:List AV} (hx:RL ρ j xs us.toList) (hy:RL ρ j ys vs.toList):
    ∀ (fs:List Field) (b:SB),eqFields P eq fs xs ys=some b→
      (forIn fs ((none,()):Option Bool×Unit) (fieldStep d us vs)).run P w= .ok (if b.den ρ=true then (none,()) else (some false,())) w
  | [], b,h=>by unfold eqFields at h;cases h;simp [SB.den]
  | f::fs,b,h=>by
    unfold eqFields at h;rw [List.forIn_cons];simp only [Sem.run_bind];by_cases hn : f.name = "_"
    · rw [if_pos hn] at h;have ih:=zcN heq hx hy fs b h;simp only [fieldStep,hn,ne_eq,not_true_eq_false,if_false,Sem.run_pure,Result.andThen_ok];exact ih
    · rw [if_neg hn] at h;split at h
      case h_2=>cases h
      rename_i x y h1 h2;obtain ⟨u,h3,h4⟩:=zbS (P:=P) (w:=w) h1 hx;obtain ⟨v,h5,h6⟩:=zbS (P:=P) (w:=w) h2 hy;split at h
      · cases h
      · rename_i c hc;split at h
        case h_2=>cases h
        rename_i d' hd;cases h;have ih:=zcN heq hx hy fs d' hd;have e:=heq _ _ _ _ hc u v h4 h6;simp only [fieldStep,hn,ne_eq,not_false_eq_true,if_true,Sem.run_bind,h3,h5,e,Result.andThen_ok,zb2];cases hcd:c.den ρ
        · simp
        · simp only [Bool.not_true,Bool.false_eq_true,if_false,Sem.run_pure,Result.andThen_ok,Bool.true_and];exact ih
def znM (d:Nat) (e:TypeId) (n:Nat) (us vs:Array Value) (i:Nat) (_:Option Bool×Unit):Sem (ForInStep (Option Bool×Unit)):=do
 let x←part e us (i*n)
 let y←part e vs (i*n)
 let r←Op.equalIn d e x y
 if (!r)=true then pure (ForInStep.done (some false,())) else pure (ForInStep.yield (none,()))
theorem ze9 {eq:AV→AV→Option SB} {d s:Nat} {e:TypeId} (heq: ∀x y b,eq x y=some b→EqS P ρ j w d e x y b) {us vs:Array Value} {xs ys:List AV} (hx:RL ρ j xs us.toList) (hy:RL ρ j ys vs.toList):
  ∀ (n i:Nat) (b:SB),zdt P eq e s n i xs ys=some b→
   (forIn (List.range' i n) ((none,()):Option Bool×Unit) (znM d e s us vs)).run P w= .ok (if b.den ρ=true then (none,()) else (some false,())) w
 | 0,i,b,h=>by unfold zdt at h;cases h;simp [SB.den]
 | n+1,i,b,h=>by
  unfold zdt at h;rw [List.range'_succ,List.forIn_cons];simp only [Sem.run_bind];split at h
  case h_2=>cases h
  rename_i x y h1 h2;obtain ⟨u,h3,h4⟩:=zbS (P:=P) (w:=w) h1 hx;obtain ⟨v,h5,h6⟩:=zbS (P:=P) (w:=w) h2 hy;split at h
  ·cases h
  ·rename_i c hc;split at h
   case h_2=>cases h
   rename_i d' hd;cases h;have ih:=ze9 heq hx hy n (i+1) d' hd;have e:=heq _ _ _ hc u v h4 h6;simp only [znM,Sem.run_bind,h3,h5,e,Result.andThen_ok,zb2];cases hcd:c.den ρ
   ·simp
   ·simp only [Bool.not_true,Bool.false_eq_true,if_false,Sem.run_pure,Result.andThen_ok,Bool.true_and];exact ih
theorem zhn (hi:Inv ρ w0 j H w): ∀(f d:Nat) (t:TypeId) (x y:AV) (b:SB),f≤d→eqA P H f t x y=some b→EqS P ρ j w d t x y b
 | 0,d,t,x,y,b,_,h=>by unfold eqA at h;cases h
 | f+1,0,t,x,y,b,hd,h=>by omega
 | f+1,d+1,t,x,y,b,hd,h=>by
  intro u v hu hv;have ih:=fun t x y b (h:eqA P H f t x y=some b)=>zhn hi f d t x y b (by omega) h;unfold eqA at h;unfold Op.equalIn;split at h
  ·rename_i ht;simp only [Sem.run_bind,run_underlying ht,Result.andThen_ok];split at h
   case h_2=>cases h
   cases h;simp only [R] at hu hv;subst hu hv;simp [zqG]
  ·rename_i k ht;simp only [Sem.run_bind,run_underlying ht,Result.andThen_ok];split at h
   case h_2=>cases h
   split at h
   case h_2=>cases h
   rename_i hk;have:=zqT hk;subst this;cases h;simp only [R] at hu hv;subst hu hv;simp [zkn,zem]
  ·rename_i e ht;simp only [Sem.run_bind,run_underlying ht,Result.andThen_ok];split at h
   ·cases h;simp only [R] at hu hv;subst hu hv;rfl
   ·cases h;simp only [R] at hu hv;subst hu;obtain ⟨L,_,rfl⟩:=hv;rfl
   ·cases h;simp only [R] at hu hv;subst hv;obtain ⟨L,_,rfl⟩:=hu;rfl
   ·rename_i n p m q;obtain ⟨L,hL,rfl⟩:=hu;obtain ⟨M,hM,rfl⟩:=hv;split at h
    case h_2=>cases h
    rename_i k hs;simp only [Sem.run_bind,run_sizeOf hs,Result.andThen_ok,Nat.succ_ne_zero,ne_eq,not_false_eq_true,if_true];split at h
    ·rename_i hnm;have:=zaj hnm;subst this;rw [hL] at hM;cases hM;cases h;have e2:((⟨L.blk,L.off+p,none⟩:Addr)==⟨L.blk,L.off+q,none⟩)=Nat.beq p q:=by
      rw [Bool.eq_iff_iff];simp [Nat.beq_eq]
     simp [sameAddr,e2,SB.den]
    ·split at h
     case h_2=>cases h
     rename_i hap;cases h;obtain ⟨h1,⟨a1,e1,h2⟩,⟨a2,e2,h3⟩⟩:=zmn hi hL hM hap;exact zeO h1 h2 h3
   ·cases h
  ·rename_i e ht;simp only [Sem.run_bind,run_underlying ht,Result.andThen_ok];split at h
   ·cases h;simp only [R] at hu hv;subst hu hv;rfl
   ·cases h;simp only [R] at hu hv;subst hu;obtain ⟨L,_,_,rfl⟩:=hv;rfl
   ·cases h;simp only [R] at hu hv;subst hu;obtain ⟨L,c,rfl⟩:=hv;rfl
   ·cases h;simp only [R] at hu hv;subst hv;obtain ⟨L,_,_,rfl⟩:=hu;rfl
   ·cases h;simp only [R] at hu hv;subst hv;obtain ⟨L,c,rfl⟩:=hu;rfl
   ·cases h;simp only [R] at hu hv;subst hu;obtain ⟨L,l,c,rfl⟩:=hv;rfl
   ·cases h;simp only [R] at hu hv;subst hv;obtain ⟨L,l,c,rfl⟩:=hu;rfl
   ·cases h
  ·rename_i e1 e2 ht;simp only [Sem.run_bind,run_underlying ht,Result.andThen_ok];split at h
   ·cases h;simp only [R] at hu hv;subst hu hv;rfl
   ·cases h;simp only [R] at hu hv;subst hu;obtain ⟨L,_,rfl⟩:=hv;rfl
   ·cases h;simp only [R] at hu hv;subst hv;obtain ⟨L,_,rfl⟩:=hu;rfl
   ·cases h
  ·rename_i e1 e2 e3 ht;simp only [Sem.run_bind,run_underlying ht,Result.andThen_ok];split at h
   ·cases h;simp only [R] at hu hv;subst hu hv;rfl
   ·cases h;simp only [R] at hu hv;subst hu;obtain ⟨l,m,rfl,_,_⟩:=hv;rfl
   ·cases h;simp only [R] at hu hv;subst hv;obtain ⟨l,m,rfl,_,_⟩:=hu;rfl
   ·cases h
  ·rename_i fs ht;split at h
   case h_2=>cases h
   split at h
   ·cases h
   ·rename_i hst;obtain ⟨us,rfl,h1⟩:=hu;obtain ⟨vs,rfl,h2⟩:=hv;have hloop:=zcN (d:=d) (fun t x y b h=>ih t x y b h) (us:=us.toArray) (vs:=vs.toArray) (by simpa using h1) (by simpa using h2) fs.toList b h;rw [Array.forIn_toList] at hloop;simp only [Sem.run_bind,run_underlying ht,Result.andThen_ok,run_program,hst,Bool.false_eq_true,if_false];refine Eq.trans (congrArg (fun r=>Result.andThen r _) hloop) ?_;cases b.den ρ<;>rfl
  ·rename_i len e ht;split at h
   case h_2=>cases h
   split at h
   case h_2=>cases h
   rename_i s hs;obtain ⟨us,rfl,h1⟩:=hu;obtain ⟨vs,rfl,h2⟩:=hv;have hloop:=ze9 (d:=d) (fun x y b h=>ih e x y b h) (us:=us.toArray) (vs:=vs.toArray) (by simpa using h1) (by simpa using h2) len 0 b h;simp only [Sem.run_bind,run_underlying ht,Result.andThen_ok,run_sizeOf hs];rw [Std.Legacy.Range.forIn_eq_forIn_range'];refine Eq.trans (congrArg (fun r=>Result.andThen r _) (Eq.trans ?_ hloop)) ?_
   ·simp only [Std.Legacy.Range.size,Nat.sub_zero,Nat.add_sub_cancel,Nat.div_one];rfl
   ·cases b.den ρ<;>rfl
  ·cases h
def strOf (p:List Nat):ByteArray:=⟨(p.map UInt8.ofNat).toArray⟩
theorem zoh (p:List Nat):(strOf p).size=p.length:=by simp [strOf,ByteArray.size]
theorem zk6 {op:BinOp} {t:TypeId} {k k':IntKind} {p q:SE} {r:AV} (h:zrL op k k' p q=some r):
  ∃ v',(binOp op t (.int k (p.den ρ)) (.int k' (q.den ρ))).run P w= .ok v' w∧R ρ j r v':=by
 unfold zrL at h;split at h
 ·rename_i hs;split at h
  ·rename_i c hc;cases h;obtain ⟨e1,e2,e3,e4⟩:=zgo (ρ:=ρ) hc;exact ⟨.int k (c.den ρ),by rw [zeQ (by rw [hs];simp) e2 e3 e4,e1],rfl⟩
  ·cases h
 ·split at h
  ·rename_i hk;obtain rfl:=zqT hk;split at h
   ·rename_i hc;cases h;exact ⟨.bool ((zqF op p q).den ρ),by rw [ziS hc,zkn],rfl⟩
   ·split at h
    ·rename_i c hc;cases h;obtain ⟨e1,e2,e3,e4⟩:=zgo (ρ:=ρ) hc;exact ⟨.int k (c.den ρ),by rw [zeQ (fun _=>rfl) e2 e3 e4,e1],rfl⟩
    ·cases h
  ·cases h
theorem zk5 {op:BinOp} {t:TypeId} {p q:List Nat} {r:AV} (h:zuh op p q=some r) (g1: ∀b∈p,b<256) (g2: ∀b∈q,b<256):
  ∃ v',(binOp op t (.string (strOf p)) (.string (strOf q))).run P w= .ok v' w∧R ρ j r v':=by cases h
theorem zaF (hi:Inv ρ w0 j H w) {op:BinOp} {t:TypeId} {a1 a2 r:AV} {u1 u2:Value} (h:binEq P H op t a1 a2=some r) (h1:R ρ j a1 u1) (h2:R ρ j a2 u2)
  (he:binOp .eql t u1 u2=(do pure (.bool (←Op.equal t u1 u2)))) (hn:binOp .neq t u1 u2=(do pure (.bool (!(←Op.equal t u1 u2))))):
  ∃ v',(binOp op t u1 u2).run P w= .ok v' w∧R ρ j r v':=by
 unfold binEq at h;split at h
 ·split at h
  ·rename_i b hb;cases h;have:=zhn hi 8 Op.maxDepth t a1 a2 b (by decide) hb u1 u2 h1 h2;refine ⟨.bool (b.den ρ),?_,rfl⟩;rw [he];simp only [Sem.run_bind,Op.equal,this,Result.andThen_ok,Sem.run_pure]
  ·cases h
 ·split at h
  ·rename_i b hb;cases h;have:=zhn hi 8 Op.maxDepth t a1 a2 b (by decide) hb u1 u2 h1 h2;refine ⟨.bool (!(b.den ρ)),?_,by rw [←zbj];rfl⟩;rw [hn];simp only [Sem.run_bind,Op.equal,this,Result.andThen_ok,Sem.run_pure]
  ·cases h
 ·cases h
theorem zvL (P:Program) (H:Heap) (n:Nat) (t:TypeId) (i:Nat) (l:Option SE) (y:AV):eqA P H n t (.cst i l) y=none:=by
 cases n with
 | zero=>rfl
 | succ n=>
  unfold eqA;cases P.underlying t with
  | none=>rfl
  | some d=>cases d<;>rfl
theorem zvJ (P:Program) (H:Heap) (n:Nat) (t:TypeId) (i:Nat) (l:Option SE) (y:AV):eqA P H n t (.opq i l) y=none:=by
 cases n with
 | zero=>rfl
 | succ n=>
  unfold eqA;cases P.underlying t with
  | none=>rfl
  | some d=>cases d<;>rfl
theorem zrO (P:Program) (H:Heap) (o:BinOp) (t:TypeId) (i:Nat) (l:Option SE) (y:AV):binEq P H o t (.cst i l) y=none:=by
 unfold binEq;cases o<;>simp only [zvL]
theorem zrM (P:Program) (H:Heap) (o:BinOp) (t:TypeId) (i:Nat) (l:Option SE) (y:AV):binEq P H o t (.opq i l) y=none:=by
 unfold binEq;cases o<;>simp only [zvJ]
theorem zvK (P:Program) (H:Heap) (n:Nat) (t:TypeId) (i:SB) (l:Bool) (y:AV):eqA P H n t (.nun i l) y=none:=by
 cases n with
 | zero=>rfl
 | succ n=>
  unfold eqA;cases P.underlying t with
  | none=>rfl
  | some d=>cases d<;>rfl
theorem zw4 (P:Program) (H:Heap) (n:Nat) (t:TypeId) (i:Nat) (e:SE) (sz:Nat) (l:List (SE×Nat)) (y:AV):eqA P H n t (.sx i e sz l) y=none:=by
 cases n with
 | zero=>rfl
 | succ n=>
  unfold eqA;cases P.underlying t with
  | none=>rfl
  | some d=>cases d<;>rfl
theorem ztC (P:Program) (H:Heap) (o:BinOp) (t:TypeId) (i:Nat) (e:SE) (sz:Nat) (l:List (SE×Nat)) (y:AV):binEq P H o t (.sx i e sz l) y=none:=by
 unfold binEq;cases o<;>simp only [zw4]
theorem zrN (P:Program) (H:Heap) (o:BinOp) (t:TypeId) (i:SB) (l:Bool) (y:AV):binEq P H o t (.nun i l) y=none:=by
 unfold binEq;cases o<;>simp only [zvK]
theorem zo6 (hi:Inv ρ w0 j H w) {op:BinOp} {t:TypeId} {x y:Operand} {a1 a2 r:AV} {u1 u2:Value} (h:binA P H (match isC x with|true=>true|false=>isC y) op t a1 a2=some r) (h1:R ρ j a1 u1) (h2:R ρ j a2 u2):
  ∃ v',(do eqGuard op t x y u1 u2;binOp op t u1 u2:Sem Value).run P w= .ok v' w∧R ρ j r v':=by
 have glue:(eqGuard op t x y u1 u2).run P w= .ok () w→(∃v',(binOp op t u1 u2).run P w= .ok v' w∧R ρ j r v')→
   ∃ v',(do eqGuard op t x y u1 u2;binOp op t u1 u2:Sem Value).run P w= .ok v' w∧R ρ j r v':=fun hg ⟨v',e,hr⟩=>
  ⟨v',by simp only [Sem.run_bind,hg,Result.andThen_ok,e],hr⟩
 cases a1<;>simp only [binA] at h
 case junk=>exact h1.elim
 case int k p=>
  split at h
  ·simp only [R] at h1 h2;subst h1 h2;exact glue (zaC (by simp) (by simp)) (zk6 h)
  ·cases h
 case str p=>
  split at h
  ·obtain ⟨g1,rfl⟩:=h1;obtain ⟨g2,rfl⟩:=h2;exact glue (zaC (by simp) (by simp)) (zk5 h g1 g2)
  ·cases h
 case nili=>
  split at h
  ·rename_i hc;have h1':=h1;simp only [R] at h1';subst h1';exact glue (zaC (fun _ _=>hc) (by simp)) (zaF hi h h1 h2 rfl rfl)
  ·cases h
 case agg l=>
  split at h
  ·cases h
  ·rename_i hgt;have h1':=h1;obtain ⟨m,rfl,_⟩:=h1';exact glue (zaC (by simp) (fun _ _ _ _=>hgt)) (zaF hi h h1 h2 rfl rfl)
 case bool=>have h1':=h1;simp only [R] at h1';subst h1';exact glue (zaC (by simp) (by simp)) (zaF hi h h1 h2 rfl rfl)
 case nilp=>have h1':=h1;simp only [R] at h1';subst h1';exact glue (zaC (by simp) (by simp)) (zaF hi h h1 h2 rfl rfl)
 case ptr=>have h1':=h1;obtain ⟨_,_,rfl⟩:=h1';exact glue (zaC (by simp) (by simp)) (zaF hi h h1 h2 rfl rfl)
 case nils=>have h1':=h1;simp only [R] at h1';subst h1';exact glue (zaC (by simp) (by simp)) (zaF hi h h1 h2 rfl rfl)
 case sl=>have h1':=h1;obtain ⟨_,_,_,rfl⟩:=h1';exact glue (zaC (by simp) (by simp)) (zaF hi h h1 h2 rfl rfl)
 case emp=>have h1':=h1;obtain ⟨_,_,rfl⟩:=h1';exact glue (zaC (by simp) (by simp)) (zaF hi h h1 h2 rfl rfl)
 case slu=>have h1':=h1;obtain ⟨_,_,_,rfl,_⟩:=h1';exact glue (zaC (by simp) (by simp)) (zaF hi h h1 h2 rfl rfl)
 case sla=>have h1':=h1;obtain ⟨_,_,_,rfl⟩:=h1';exact glue (zaC (by simp) (by simp)) (zaF hi h h1 h2 rfl rfl)
 case nilm=>have h1':=h1;simp only [R] at h1';subst h1';exact glue (zaC (by simp) (by simp)) (zaF hi h h1 h2 rfl rfl)
 case map=>have h1':=h1;obtain ⟨_,_,rfl⟩:=h1';exact glue (zaC (by simp) (by simp)) (zaF hi h h1 h2 rfl rfl)
 case func=>have h1':=h1;obtain ⟨_,_,rfl,_⟩:=h1';exact glue (zaC (by simp) (by simp)) (zaF hi h h1 h2 rfl rfl)
 case nilf=>have h1':=h1;simp only [R] at h1';subst h1';exact glue (zaC (by simp) (by simp)) (zaF hi h h1 h2 rfl rfl)
 case iface=>have h1':=h1;obtain ⟨_,rfl,_⟩:=h1';exact glue (zaC (by simp) (by simp)) (zaF hi h h1 h2 rfl rfl)
 case tup=>have h1':=h1;obtain ⟨_,rfl,_⟩:=h1';exact glue (zaC (by simp) (by simp)) (zaF hi h h1 h2 rfl rfl)
 case cst i l=>exact absurd h (by rw [zrO];simp)
 case opq i l=>exact absurd h (by rw [zrM];simp)
 case nun i l=>exact absurd h (by rw [zrN];simp)
 case sx=>exact absurd h (by rw [ztC];simp)
theorem zkB (hi:Inv ρ w0 j H w) (he:ER ρ j N env a) {op:BinOp} {t t':TypeId} {x y:Operand} (ho:o.op= .binOp op t x y t') (h:zkC P op t x y t' env H=some v):LS P ρ j w a o v:=by
 unfold zkC at h;split at h
 ·rename_i a1 a2 hx hy;obtain ⟨v',h1,h2⟩:=zo6 hi (x:=x) (y:=y) h (zag he hx) (zag he hy);refine ⟨v',?_,h2⟩;simp only [execOp,ho];rw [Sem.run_bind,h1];rfl
 ·cases h
theorem zlS (he:ER ρ j N env a) {op:UnOp} {t:TypeId} {x:Operand} (ho:o.op= .unOp op t x) (h:ztc op t x env H=some v):LS P ρ j w a o v:=by
 unfold ztc at h;split at h
 case h_2=>cases h
 rename_i u hx;have h1:=zag he hx;unfold unA at h;split at h
 ·rename_i b;cases h;simp only [R] at h1;exact ⟨.bool (!(SB.den ρ b)),by simp only [execOp,ho,h1,Sem.run_bind,Op.unary,Sem.run_pure,Result.andThen_ok],by rw [←zbj];rfl⟩
 ·split at h
  ·rename_i c hc;cases h;simp only [R] at h1;obtain ⟨e1,_⟩:=zgo (ρ:=ρ) hc;refine ⟨.int _ (c.den ρ),?_,rfl⟩;rw [e1];simp [execOp,ho,h1,Op.unary,Op.intArith,zcq,SE.den]
  ·cases h
 ·split at h
  ·rename_i c hc;cases h;simp only [R] at h1;obtain ⟨e1,_⟩:=zgo (ρ:=ρ) hc;refine ⟨.int _ (c.den ρ),?_,rfl⟩;rw [e1];simp only [execOp,ho,h1,Sem.run_bind,Op.unary,Op.intBits,zcq,zct,SE.den,Sem.run_pure,Result.andThen_ok];rw [BitVec.xor_comm]
  ·cases h
 ·cases h
theorem run_sliceBound {x:Operand} (he:ER ρ j N env a) {n y:Nat} (h:natA env x=some n) (hn:n≤y) (c:BoundsCode):(Instr.sliceBound (a.eval x) y c).run P w= .ok n w:=by
 obtain ⟨k,hk⟩:=zbT he h;simp only [Instr.sliceBound,hk,asIntOf,Sem.run_bind,Sem.run_pure,Result.andThen_ok];rw [if_pos (by omega)];simp
theorem zbF (he:ER ρ j N env a) {len cap l h m:Nat} {lo hi mx:Option Operand} (hb:bounds env len cap lo hi mx=some (l,h,m)):
  l≤h∧h≤m∧m≤cap∧(mx=none→m=cap)∧ ∀(isS:Bool) (cap':Nat),cap≤cap'→
   (Instr.sliceBounds isS len cap' (lo.map a.eval) (hi.map a.eval) (mx.map a.eval)).run P w= .ok (l,h,if mx.isSome then m else cap') w:=by
 unfold bounds at hb;split at hb
 ·rename_i mo;split at hb
  ·cases hb
  ·rename_i m1 hm1;split at hb
   ·cases hb
   ·rename_i hmc;have hmc:=Nat.le_of_ble_eq_true hmc;split at hb
    ·cases hb
    ·rename_i ho;split at hb
     ·cases hb
     ·rename_i h1 hh1;split at hb
      ·cases hb
      ·rename_i hhm;have hhm:=Nat.le_of_ble_eq_true hhm;split at hb
       ·cases hb
       ·rename_i l1 hl1;split at hb
        ·rename_i hlh;have hlh:=Nat.le_of_ble_eq_true hlh;cases hb;refine ⟨hlh,hhm,hmc,(fun hh=>by cases hh),fun isS cap' hc=> ?_⟩;simp only [Instr.sliceBounds,Option.map_some,Sem.run_bind,run_sliceBound he hm1 (Nat.le_trans hmc hc) _,Result.andThen_ok,run_sliceBound he hh1 hhm _,Option.isSome_some,if_true,Sem.run_pure];cases lo with
         | none=>simp only [natO] at hl1;cases hl1;rfl
         | some x=>simp only [Option.map_some,Sem.run_bind,run_sliceBound he hl1 hlh,Result.andThen_ok,Sem.run_pure]
        ·cases hb
 ·split at hb
  ·cases hb
  ·rename_i h1 hh1;split at hb
   ·cases hb
   ·rename_i hhc;have hhc:=Nat.le_of_ble_eq_true hhc;split at hb
    ·cases hb
    ·rename_i l1 hl1;split at hb
     ·rename_i hlh;have hlh:=Nat.le_of_ble_eq_true hlh;cases hb;refine ⟨hlh,hhc,Nat.le_refl _,fun _=>rfl,fun isS cap' hc=> ?_⟩;have low:(match lo.map a.eval with
        | some v=>do let l←Instr.sliceBound v h .sliceB;pure (l,h,cap')
        | none=>do let l←pure 0;pure (l,h,cap'):Sem (Nat×Nat×Nat)).run P w= .ok (l,h,cap') w:=by
       cases lo with
       | none=>simp only [natO] at hl1;cases hl1;rfl
       | some x=>simp only [Option.map_some,Sem.run_bind,run_sliceBound he hl1 hlh,Result.andThen_ok,Sem.run_pure]
      simp only [Instr.sliceBounds,Option.map_none,Sem.run_bind,Sem.run_pure,Result.andThen_ok,Option.isSome_none,Bool.false_eq_true,if_false];cases hi with
      | none=>
       simp only [natO] at hh1;cases hh1;simp only [Option.map_none,Sem.run_bind,Sem.run_pure,Result.andThen_ok];exact low
      | some x=>
       simp only [Option.map_some,Sem.run_bind,run_sliceBound he hh1 (Nat.le_trans hhc hc),Result.andThen_ok];exact low
     ·cases hb
theorem zc8 {t:TypeId} {s:Nat} (h:zfY P t=some s): ∃e,P.underlying t=some (.slice e)∧szOf P e=some s:=by
 unfold zfY at h;split at h
 ·rename_i e hu;exact ⟨e,hu,h⟩
 ·cases h
theorem zfd {t e:TypeId} {len s:Nat} (h:zo7 P t=some (len,e,s)):P.underlying t=some (.array len e)∧szOf P e=some s:=by
 unfold zo7 at h;split at h
 ·rename_i len' e' hu;split at h
  ·rename_i hs;cases h;exact ⟨hu,hs⟩
  ·cases h
 ·cases h
theorem zqU {t:TypeId} (h:zqV P t=true):P.underlying t=some .string:=by
 unfold zqV at h;split at h
 ·assumption
 ·cases h
theorem zrX {b off s l h m:Nat} {L:Loc} (hj:j b=some L) (h1:l≤h) (h2:h≤m):
  R ρ j (cutA b off s l h m) (.slice (some (if m=l then ⟨L.blk,L.off+off,none⟩ else (⟨L.blk,L.off+off,none⟩:Addr).add (l*s))) (h-l) (m-l)):=by
 unfold cutA;split
 ·rename_i e;have e:=zaj e;subst e;refine ⟨L,hj,?_,?_⟩
  ·show h-m≤0;omega
  ·rw [if_pos rfl];simp [zjt]
 ·rename_i e;have e:m≠l:=fun hh=>by subst hh;rw [Nat.beq_refl] at e;cases e
  refine ⟨L,hj,?_,?_⟩
  ·show h-l≤m-l;omega
  ·rw [if_neg e,addr_add];show _=Value.slice (some ⟨L.blk,L.off+(off+l*s),none⟩) (h-l) (m-l);rw [Nat.add_assoc]
theorem zxd {b off s l h len k:Nat} {L:Loc} (hj:j b=some L) (h1:l≤h) (h2:h≤len) (h3:k+len≤L.cap∧0<L.cap):
  R ρ j (cutU b off s l h len k) (.slice (some (if L.cap-k=l then ⟨L.blk,L.off+off,none⟩ else (⟨L.blk,L.off+off,none⟩:Addr).add (l*s))) (h-l) (L.cap-k-l)):=by
 unfold cutU;split
 ·rename_i e;have e:=zaj e;subst e;refine ⟨L,hj,?_,?_⟩
  ·exact ⟨by omega,h3.2⟩
  ·have:(⟨L.blk,L.off+off,none⟩:Addr).add (0*s)=⟨L.blk,L.off+off,none⟩:=by rw [addr_add];simp
   rw [this];simp [zjt]
 ·split
  ·rename_i e;rw [Nat.blt_eq] at e;refine ⟨L,hj,?_,?_⟩
   ·exact ⟨by show k+l+(h-l)≤L.cap;omega,h3.2⟩
   ·rw [if_neg (by omega),addr_add];show _=Value.slice (some ⟨L.blk,L.off+(off+l*s),none⟩) (h-l) (L.cap-(k+l));rw [Nat.add_assoc,Nat.sub_sub]
  ·rename_i e;have e: ¬l<len:=fun hh=>by rw [←Nat.blt_eq] at hh;rw [hh] at e;cases e
   exact ⟨_,_,by rw [show h-l=0 by omega]⟩
theorem zju (he:ER ρ j N env a) {c:Nat} {lo hi:Option Operand} (hb:zfJ env c lo hi=true):
  ∃ l h,l≤h∧h≤c∧ ∀(isS:Bool) (len cap':Nat),c≤cap'→
   (Instr.sliceBounds isS len cap' (lo.map a.eval) (hi.map a.eval) none).run P w= .ok (l,h,cap') w:=by
 unfold zfJ at hb;split at hb
 case h_2=>cases hb
 rename_i l ho hl;split at hb
 case h_2=>cases hb
 rename_i k e hoe;split at hb
 case h_2=>cases hb
 rename_i p q hbn;split at hb
 case h_2=>cases hb
 rename_i h1 h2;have h1:=Nat.le_of_ble_eq_true h1;have h2:=Nat.le_of_ble_eq_true h2;obtain ⟨x,ex,x1,x2⟩:=zeE (ρ:=ρ) hbn;have hr:a.eval ho= .int k (e.den ρ):=zag he hoe;rw [ex] at hr;have hh: ∀y (cd:BoundsCode),x≤y→(Instr.sliceBound (a.eval ho) y cd).run P w= .ok x w:=fun y cd hy=>by
  simp only [Instr.sliceBound,hr,asIntOf,Sem.run_bind,Sem.run_pure,Result.andThen_ok];rw [if_pos (by simp only [Int.ofNat_eq_natCast];omega)];simp
 refine ⟨l,x,by omega,by omega,fun isS len cap' hc=> ?_⟩;simp only [Instr.sliceBounds,Option.map_some,Option.map_none,Sem.run_bind,hh cap' _ (by omega),Result.andThen_ok,Sem.run_pure];cases lo with
 | none=>simp only [natO] at hl;cases hl;rfl
 | some y=>simp only [Option.map_some,Sem.run_bind,run_sliceBound he hl (show l≤x by omega),Result.andThen_ok,Sem.run_pure]
theorem zjJ (hi:Inv ρ w0 j H w) (he:ER ρ j N env a) {t:TypeId} {x:AV} {u:Value} {lo hi' mx:Option Operand} {v:AV} (hx:R ρ j x u) (h:zhT P env t x lo hi' mx=some v):
  ∃ v',(Instr.sliceAt t u (lo.map a.eval) (hi'.map a.eval) (mx.map a.eval)).run P w= .ok v' w∧R ρ j v v':=by
 have plain: ∀d,P.underlying t=some d→(∀n e,d≠ .array n e)→(Instr.sliceAt t u (lo.map a.eval) (hi'.map a.eval) (mx.map a.eval)).run P w=(Instr.slice t u (lo.map a.eval) (hi'.map a.eval) (mx.map a.eval)).run P w:=fun d hd hn=>by
  unfold Instr.sliceAt;simp only [Sem.run_bind,run_underlying hd,Result.andThen_ok]
 cases x<;>simp only [zhT] at h
 case str p=>
  split at h
  ·rename_i hs;split at h
   ·rename_i l hh m hb;cases h;obtain ⟨g,rfl⟩:=hx;have hu:=zqU hs;obtain ⟨h1,h2,h3,h4,h5⟩:=zbF (P:=P) (w:=w) he hb;have hm:=h4 rfl;subst hm;have:=h5 false p.length (Nat.le_refl _);refine ⟨.string ((strOf p).extract l hh),?_,fun b hb=>g b (List.mem_of_mem_drop (List.mem_of_mem_take hb)),?_⟩
    ·rw [plain _ hu (by simp)];unfold Instr.slice;simp only [Sem.run_bind,run_underlying hu,Result.andThen_ok,Option.map_none,Option.isSome_none,Bool.false_eq_true,if_false];have e:(⟨(p.map UInt8.ofNat).toArray⟩:ByteArray).size=p.length:=zoh p;rw [e];simp only [Option.map_none,Option.isSome_none,Bool.false_eq_true,if_false] at this;rw [this];rfl
    ·congr 1;apply ByteArray.ext;have:((strOf p).extract l hh).data=(strOf p).data.extract l hh:=by simp [ByteArray.data_extract]
     rw [this];simp only [strOf];apply Array.ext';simp [List.extract_eq_take_drop]
   ·cases h
  ·cases h
 case nils=>
  split at h
  ·rename_i s q hs hb;cases h;obtain ⟨l,hh,m⟩:=q;simp only [R] at hx;subst hx;obtain ⟨e,hu,hs'⟩:=zc8 hs;obtain ⟨h1,h2,h3,h4,h5⟩:=zbF (P:=P) (w:=w) he hb;have:=h5 true 0 (Nat.le_refl _);have e1:l=0:=by omega
   have e2:hh=0:=by omega
   have e3:m=0:=by omega
   subst e1 e2 e3;refine ⟨.slice none 0 0,?_,rfl⟩;rw [plain _ hu (by simp)];unfold Instr.slice;simp only [Sem.run_bind,run_underlying hu,Result.andThen_ok,this,run_sizeOf hs',Sem.run_pure];simp
  ·cases h
 case emp=>
  split at h
  ·rename_i s hs;split at h
   ·rename_i q hb;cases h;obtain ⟨l,hh,m⟩:=q;obtain ⟨p,c,rfl⟩:=hx;obtain ⟨e,hu,hs'⟩:=zc8 hs;obtain ⟨h1,h2,h3,h4,h5⟩:=zbF (P:=P) (w:=w) he hb;have:=h5 true c (Nat.zero_le _);have e1:l=0:=by omega
    have e2:hh=0:=by omega
    subst e1 e2;refine ⟨.slice (some p) 0 c,?_,_,_,rfl⟩;rw [plain _ hu (by simp)];unfold Instr.slice;simp only [Sem.run_bind,run_underlying hu,Result.andThen_ok,this,run_sizeOf hs',Sem.run_pure];simp only [Option.isSome_none,Bool.false_eq_true,if_false,Nat.sub_zero,Option.map_some];by_cases hc:c=0
    ·rw [if_pos hc]
    ·rw [if_neg hc];have:p.add (0*s)=p:=by unfold Addr.add;simp
     rw [this]
   ·cases h
  ·cases h
 case sl b off len cap=>
  split at h
  ·rename_i s hs;obtain ⟨L,hj,hck,rfl⟩:=hx;obtain ⟨e,hu,hs'⟩:=zc8 hs;rw [plain _ hu (by simp)];unfold Instr.slice;simp only [Sem.run_bind,run_underlying hu,Result.andThen_ok];unfold zgG at h;split at h
   ·rename_i c;split at h
    ·rename_i l hh m hb;cases h;obtain ⟨h1,h2,h3,h4,h5⟩:=zbF (P:=P) (w:=w) he hb;have:=h5 true c (Nat.le_refl _);have e3:(if mx.isSome=true then m else c)=m:=by
      cases mx with
      | none=>simp [h4 rfl]
      | some _=>rfl
     rw [e3] at this;refine ⟨_,by simp only [zjt,this,run_sizeOf hs',Result.andThen_ok,Sem.run_bind,Sem.run_pure,Option.map_some,Option.map_none];rfl,?_⟩;have:=zrX (ρ:=ρ) (s:=s) hj h1 h2 (off:=off);by_cases hm:m=l
     ·rw [if_pos hm];rw [if_pos hm] at this;exact this
     ·rw [if_neg hm];rw [if_neg hm] at this;exact this
    ·split at h
     ·rename_i hb;cases h;rename_i hbs;obtain ⟨l,hh,h1,h2,h3⟩:=zju (P:=P) (w:=w) he hbs;have:=h3 true len c (Nat.le_refl _);refine ⟨_,by simp only [zjt,this,run_sizeOf hs',Result.andThen_ok,Sem.run_bind,Sem.run_pure,Option.map_some,Option.map_none];rfl,?_⟩;by_cases hm:c=l
      ·exact ⟨_,_,_,by rw [if_pos hm]⟩
      ·exact ⟨_,_,_,by rw [if_neg hm]⟩
     ·cases h
   ·rename_i k;have hck:k+len≤L.cap∧0<L.cap:=hck;split at h
    ·rename_i l hh m hb;obtain ⟨h1,h2,h3,h4,h5⟩:=zbF (P:=P) (w:=w) he hb;have:=h5 true (L.cap-k) (by omega);split at h
     ·cases h;simp only [Option.isSome_some,if_true,Option.map_some] at this;refine ⟨_,by simp only [zjt,this,run_sizeOf hs',Result.andThen_ok,Sem.run_bind,Sem.run_pure,Option.map_some,Option.map_none];rfl,?_⟩;have:=zrX (ρ:=ρ) (s:=s) hj h1 h2 (off:=off);by_cases hm:m=l
      ·rw [if_pos hm];rw [if_pos hm] at this;exact this
      ·rw [if_neg hm];rw [if_neg hm] at this;exact this
     ·cases h;simp only [Option.isSome_none,Bool.false_eq_true,if_false,Option.map_none] at this;refine ⟨_,by simp only [zjt,this,run_sizeOf hs',Result.andThen_ok,Sem.run_bind,Sem.run_pure,Option.map_some,Option.map_none];rfl,?_⟩;have hm:=h4 rfl;have:=zxd (ρ:=ρ) (s:=s) hj h1 (Nat.le_trans h2 h3) hck (off:=off);by_cases hm:L.cap-k=l
      ·rw [if_pos hm];rw [if_pos hm] at this;exact this
      ·rw [if_neg hm];rw [if_neg hm] at this;exact this
    ·cases h
  ·cases h
 case ptr b off=>
  split at h
  ·rename_i n e s hs;split at h
   ·rename_i l hh m hb;cases h;obtain ⟨L,hj,rfl⟩:=hx;obtain ⟨hu,hs'⟩:=zfd hs;obtain ⟨h1,h2,h3,h4,h5⟩:=zbF (P:=P) (w:=w) he hb;have:=h5 false n (Nat.le_refl _);have e3:(if mx.isSome=true then m else n)=m:=by
     cases mx with
     | none=>simp [h4 rfl]
     | some _=>rfl
    rw [e3] at this;unfold Instr.sliceAt;refine ⟨_,by simp only [Sem.run_bind,run_underlying hu,Result.andThen_ok,Instr.sureAddr,Sem.run_pure,this,run_sizeOf hs'];rfl,?_⟩;exact zrX (ρ:=ρ) (s:=s) hj h1 h2 (off:=off)
   ·cases h
  ·cases h
 all_goals cases h
theorem zkx (hi:Inv ρ w0 j H w) (he:ER ρ j N env a) {t:TypeId} {x:Operand} {lo hi' mx:Option Operand} (ho:o.op= .slice t x lo hi' mx) (h:znu P t x lo hi' mx env H=some v):LS P ρ j w a o v:=by
 unfold znu at h;split at h
 ·rename_i u hx;have both: ∃v',(Instr.sliceAt t (a.eval x) (lo.map a.eval) (hi'.map a.eval) (mx.map a.eval)).run P w= .ok v' w∧R ρ j v v':=by
   exact zjJ hi he (zag he hx) h
  obtain ⟨v',h1,h2⟩:=both;refine ⟨v',?_,h2⟩;simp only [execOp,ho,Sem.run_bind,h1,Result.andThen_ok,Sem.run_pure]
 ·cases h
theorem zcD (hi:Inv ρ w0 j H w) {sz n:Nat} {x:AV} {u:Value} {l:List AV} (hx:R ρ j x u) (h:zhy H sz n x=some l):
  ∃ xs:List Value,(Builtin.firstCells sz n u).run P w= .ok xs.toArray w∧RL ρ j l xs:=by
 cases x<;>simp only [zhy] at h
 case nils=>
  simp only [R] at hx;subst hx;cases n with
  | zero=>cases h;exact ⟨[],rfl,rfl⟩
  | succ n=>cases h
 case emp=>
  obtain ⟨p,c,rfl⟩:=hx;cases n with
  | zero=>cases h;refine ⟨[],?_,rfl⟩;simp [Builtin.firstCells,loadCells,loadCellsFrom]
  | succ n=>cases h
 case str p=>
  obtain ⟨g,rfl⟩:=hx;have key: ∀(q:List Nat),(∀b∈q,b<256)→RL ρ j (zmh q) ((q.map UInt8.ofNat).map fun b=> .int .u8 b.toNat):=by
   intro q
   induction q with
   | nil=>intro _;rfl
   | cons b q ih=>
    intro hq;refine ⟨_,_,rfl,?_,ih fun c hc=>hq c (List.mem_cons_of_mem _ hc)⟩;have:=hq b (List.mem_cons_self ..);simp only [R,SE.den];congr 1;simp;omega
  split at h
  case h_2=>cases h
  obtain ⟨h1,h2⟩:=(key p g).take h;refine ⟨_,?_,h1⟩;simp only [Builtin.firstCells,Sem.run_pure];congr 1;apply Array.ext';have:((⟨(p.map UInt8.ofNat).toArray⟩:ByteArray).extract 0 n).data=(p.map UInt8.ofNat).toArray.extract 0 n:=by simp [ByteArray.data_extract]
  rw [this];simp [List.extract_eq_take_drop,List.map_take]
 case sl b off len cap=>
  split at h
  ·cases h
  ·split at h
   ·cases h
   ·rename_i r hr;split at h
    ·rename_i hb;cases h;have hb:off+n*sz≤r.n:=Nat.le_of_ble_eq_true hb;obtain ⟨L,hj,hck,rfl⟩:=hx;exact hi.loadCells hj hr hb
    ·cases h
 all_goals cases h
theorem zfx {x:AV} {u:Value} {n:Nat} (hx:R ρ j x u) (h:lenA x=some n):(Builtin.lenOf u).run P w= .ok n w∧((∃b c,u= .slice b n c)∨(∃s,u= .string s∧s.size=n)):=by
 cases x<;>simp only [lenA] at h<;>try (cases h;done)
 case nils=>simp only [R] at hx;subst hx;cases h;exact ⟨rfl,.inl ⟨_,_,rfl⟩⟩
 case emp=>obtain ⟨p,c,rfl⟩:=hx;cases h;exact ⟨rfl,.inl ⟨_,_,rfl⟩⟩
 case str p=>obtain ⟨g,rfl⟩:=hx;cases h;exact ⟨by simp [Builtin.lenOf,ByteArray.size],.inr ⟨_,rfl,by simp [ByteArray.size]⟩⟩
 case sl b off len cap=>obtain ⟨L,hj,hck,rfl⟩:=hx;cases h;exact ⟨rfl,.inl ⟨_,_,rfl⟩⟩
theorem zjs (hi:Inv ρ w0 j H w) {src dst e:TypeId} {x:AV} {u:Value} (hs:P.underlying src=some (.slice e)) (hd:P.underlying dst=some .string) (hx:R ρ j x u) (h:zrn H e x=some v):
  ∃ v',(convert src dst u).run P w= .ok v' w∧R ρ j v v':=by cases h
theorem zhM (hi:Inv ρ w0 j H w) (he:ER ρ j N env a) {s d:TypeId} {x:Operand} (ho:o.op= .convert s d x) (h:zgs P s d x env H=some v):LS P ρ j w a o v:=by
 unfold zgs at h;split at h
 case h_2=>cases h
 rename_i u hx;have hr:=zag he hx;have glue:(∃v',(convert s d (a.eval x)).run P w= .ok v' w∧R ρ j v v')→LS P ρ j w a o v:=fun ⟨v',h1,h2⟩=>
  ⟨v',by simp only [execOp,ho,Sem.run_bind,h1,Result.andThen_ok,Sem.run_pure],h2⟩
 unfold zw6 at h;split at h
 ·cases h
 ·rename_i sd hs;split at h
  ·rename_i k hd;split at h
   ·rename_i k' n;cases h;simp only [R] at hr;rw [hr] at glue;refine glue ⟨.int k (k.wrap (n.den ρ)),?_,by rw [←zoI];rfl⟩;unfold convert;simp only [Sem.run_bind,run_underlying hs,run_underlying hd,Result.andThen_ok];rfl
   ·cases h
  ·rename_i hd;split at h
   ·exact glue (zjs hi hs hd hr h)
   ·split at h
    ·cases h;refine glue ⟨_,?_,hr⟩;obtain ⟨g,hu⟩:=hr;rw [hu];unfold convert;simp only [Sem.run_bind,run_underlying hs,run_underlying hd,Result.andThen_ok];rfl
    ·cases h
   ·cases h
  ·cases h
theorem zjj {e:SE} {sz:Nat} {b:Option Addr} {len:Nat}: ∀ {l:List (SE×Nat)} {n:Nat},zkO e l=some n→SXs ρ j sz b len l→ ∃bb o L k,b=some ⟨bb,o,none⟩∧j n=some L∧L.blk=bb∧e.den ρ=Int.ofNat k∧k<len∧L.off=o+sz*k
 | [], _,h,_=>by cases h
 | p::l,n,h,r=>by
  unfold zkO at h;split at h
  ·rename_i hb;cases h;rw [←SE.beq_eq hb];exact r.1
  ·exact zjj h r.2
theorem zhK (he:ER ρ j N env a) {t:TypeId} {x i:Operand} (ho:o.op= .indexAddr t x i) (h:zgq P t x i env H=some v):LS P ρ j w a o v:=by
 unfold zgq at h;split at h
 case h_2=>cases h
 rename_i q e0 sz l k e hx hi;split at h
 case h_2=>cases h
 rename_i s hs;split at h
 case h_2=>cases h
 rename_i hb;split at h
 case h_2=>cases h
 rename_i n hf;cases h;have hb:=zaj hb;subst hb;obtain ⟨h1,b,len,cap,h2,h3,h4⟩:=zag he hx;obtain ⟨bb,o',L,kk,rfl,h5,rfl,h6,h7,h8⟩:=zjj hf h4;have hi:=zag he hi;simp only [R] at hi;rw [h6] at hi;obtain ⟨et,hut,hs'⟩:=zc8 hs;refine ⟨.pointer (some ⟨L.blk,L.off+0,none⟩),?_,L,h5,rfl⟩;simp only [execOp,ho,h2,hi,Instr.indexAt,asIntOf,Sem.run_bind,Sem.run_pure,Result.andThen_ok,run_underlying hut];rw [if_pos (by simp only [Int.ofNat_eq_natCast];omega)];simp only [Sem.run_bind,run_sizeOf hs',Result.andThen_ok,Sem.run_pure,Int.toNat_natCast,addr_add,Nat.add_zero,h8,Int.ofNat_eq_natCast];rw [Nat.mul_comm]
theorem zgb (he:ER ρ j N env a) {t:TypeId} {x i:Operand} (ho:o.op= .indexAddr t x i) (h:zec P t x i env H=some v):LS P ρ j w a o v:=by
 unfold zec at h;split at h
 ·rename_i n off len cap k hx hk;obtain ⟨kk,hk⟩:=zbT he hk;obtain ⟨L,hj,hck,hu⟩:=zag he hx;split at h
  ·rename_i s hs;split at h
   ·rename_i hb;rw [Nat.blt_eq] at hb;cases h;obtain ⟨e,hut,hs'⟩:=zc8 hs;refine ⟨.pointer (some ⟨L.blk,L.off+(off+k*s),none⟩),?_,L,hj,rfl⟩;simp only [execOp,ho,hu,hk,Instr.indexAt,asIntOf,Sem.run_bind,Sem.run_pure,Result.andThen_ok,run_underlying hut];rw [if_pos (by omega)];simp only [Sem.run_bind,run_sizeOf hs',Result.andThen_ok,Sem.run_pure,Int.toNat_natCast,addr_add,Nat.add_assoc]
   ·cases h
  ·cases h
 ·rename_i n off k hx hk;obtain ⟨kk,hk⟩:=zbT he hk;obtain ⟨L,hj,hu⟩:=zag he hx;split at h
  ·rename_i len e s hs;split at h
   ·rename_i hb;rw [Nat.blt_eq] at hb;cases h;obtain ⟨hut,hs'⟩:=zfd hs;refine ⟨.pointer (some ⟨L.blk,L.off+(off+k*s),none⟩),?_,L,hj,rfl⟩;simp only [execOp,ho,hu,hk,Instr.indexAt,asIntOf,Sem.run_bind,Sem.run_pure,Result.andThen_ok,run_underlying hut,Instr.sureAddr];rw [if_pos (by omega)];simp only [Sem.run_bind,run_sizeOf hs',Result.andThen_ok,Sem.run_pure,Int.toNat_natCast,addr_add,Nat.add_assoc]
   ·cases h
  ·cases h
 ·exact zhK he ho h
theorem zky (he:ER ρ j N env a) {t:TypeId} {x i:Operand} (ho:o.op= .index t x i) (h:znv P t x i env H=some v):LS P ρ j w a o v:=by
 unfold znv at h;split at h
 ·rename_i cs k hx hk;obtain ⟨kk,hk⟩:=zbT he hk;obtain ⟨vs,hu,hr⟩:=zag he hx;split at h
  ·rename_i len e s hs;split at h
   ·rename_i hb;rw [Nat.blt_eq] at hb;obtain ⟨hut,hs'⟩:=zfd hs;obtain ⟨y,h1,h2⟩:=zbS (P:=P) (w:=w) (vs:=vs.toArray) h (by simpa using hr);refine ⟨y,?_,h2⟩;simp only [execOp,ho,hu,hk,Instr.index,asIntOf,Sem.run_bind,Sem.run_pure,Result.andThen_ok,run_underlying hut];rw [if_pos (by omega)];simp only [Sem.run_bind,run_sizeOf hs',Result.andThen_ok,Sem.run_pure,Int.toNat_natCast];have h1:(part e vs.toArray (k*s)).run P w= .ok y w:=h1;rw [h1];rfl
   ·cases h
  ·cases h
 ·cases h
theorem zoY {t:TypeId} {f:Nat} {fd:Field} (h:zhm P t f=some fd): ∃fs,P.underlying t=some (.struct fs)∧fs[f]? =some fd:=by
 unfold zhm at h;split at h
 ·rename_i fs hu;exact ⟨fs,hu,h⟩
 ·cases h
theorem zkz (he:ER ρ j N env a) {t:TypeId} {x:Operand} {f:Nat} (ho:o.op= .field t x f) (h:znw P t x f env H=some v):LS P ρ j w a o v:=by
 unfold znw at h;split at h
 ·rename_i fd cs hf hx;obtain ⟨vs,hu,hr⟩:=zag he hx;obtain ⟨fs,hut,hfd⟩:=zoY hf;obtain ⟨y,h1,h2⟩:=zbS (P:=P) (w:=w) (vs:=vs.toArray) h (by simpa using hr);refine ⟨y,?_,h2⟩;simp only [execOp,ho,hu,Instr.field,Sem.run_bind,run_underlying hut,Result.andThen_ok,hfd,asAgg,Sem.run_pure,h1]
 ·cases h
theorem zjd (he:ER ρ j N env a) {t:TypeId} {x:Operand} (ho:o.op= .sliceToArrayPointer t x) (h:zje P t x env H=some v):LS P ρ j w a o v:=by
 unfold zje at h;split at h
 ·rename_i n e s b off len cap hs hx;obtain ⟨L,hj,hck,hu⟩:=zag he hx;obtain ⟨hut,hs'⟩:=zfd hs;split at h
  ·rename_i hb;have hb:=Nat.le_of_ble_eq_true hb;cases h;refine ⟨.pointer (some ⟨L.blk,L.off+off,none⟩),?_,L,hj,rfl⟩;simp only [execOp,ho,hu,Instr.arrayAt,Sem.run_bind,run_underlying hut,Result.andThen_ok];rw [if_neg (by omega)];rfl
  ·cases h
 ·rename_i n e s i len sz l hs hx;obtain ⟨h1,b,len',cap,h2,h3,h4⟩:=zag he hx;obtain ⟨hut,hs'⟩:=zfd hs;split at h
  ·rename_i hb hf;have hb:=Nat.le_of_ble_eq_true hb;cases h;obtain ⟨bb,o',L,kk,rfl,h5,rfl,h6,h7,h8⟩:=zjj hf h4;have h3:Int.ofNat len'=Int.ofNat len:=h3;have h3:=Int.ofNat.inj h3;have h6:Int.ofNat 0=Int.ofNat kk:=h6;have h6:=Int.ofNat.inj h6;subst h6;refine ⟨.pointer (some ⟨L.blk,L.off+0,none⟩),?_,L,h5,rfl⟩;simp only [execOp,ho,h2,Instr.arrayAt,Sem.run_bind,run_underlying hut,Result.andThen_ok];rw [if_neg (by omega)];simp only [h8,Nat.mul_zero,Nat.add_zero];rfl
  ·cases h
 ·cases h
theorem zhd (he:ER ρ j N env a) {fn:Fn} {first cap:Array Operand} (ho:o.op= .makeFunc fn first cap) (h:ze4 fn first cap env H=some v):LS P ρ j w a o v:=by
 unfold ze4 at h;split at h
 ·rename_i f;split at h
  ·rename_i l m hl hm;cases h;have h1:=zd7 he hl;have h2:=zd7 he hm;refine ⟨.func (.func f) (first.map a.eval) (cap.map a.eval),by simp only [execOp,ho,Instr.makeFunc,Sem.run_bind,Sem.run_pure,Result.andThen_ok],_,_,?_,h1,h2⟩;congr 1<;>apply Array.ext'<;>simp
  ·cases h
 ·cases h
theorem ze0 {t et:TypeId} {kd:TypeDesc} (h:mapOf P t=some (kd,et)): ∃kt,P.underlying t=some (.map kt et)∧P.underlying kt=some kd∧((∃k,kd= .int k)∨kd= .string):=by
 unfold mapOf at h;split at h
 ·rename_i kt et' hu;split at h
  ·rename_i k hk;cases h;exact ⟨kt,hu,hk,.inl ⟨k,rfl⟩⟩
  ·rename_i hk;cases h;exact ⟨kt,hu,hk,.inr rfl⟩
  ·cases h
 ·cases h
theorem zex {kd:TypeDesc} {x y:AV} {u v:Value} {b:Bool} (hx:R ρ j x u) (hy:R ρ j y v) (h:ztg kd x y=some b):Instr.sameNow kd u v=some b:=by
 unfold ztg at h;split at h
 ·split at h
  ·split at h
   ·rename_i hk;obtain rfl:=zqT hk;have h:=zlu (ρ:=ρ) h;simp only [R] at hx hy;subst hx hy;simp [Instr.sameNow,←h]
   ·cases h
  ·cases h
 ·split at h
  ·cases h;obtain ⟨g1,rfl⟩:=hx;obtain ⟨g2,rfl⟩:=hy;simp only [Instr.sameNow,bytes_beq g1 g2]
  ·cases h
 ·cases h
theorem zbd {kd:TypeDesc} {k:AV} {u:Value} (hk:R ρ j k u): ∀ {es:List ME} {xs:List MapEntry} {i:Nat} {r:Option (Nat×AV)},RM ρ j es xs→zkP kd k es i=some r→
  ∃ r',Instr.findNow kd u xs i=some r'∧(match r with
   | none=>r'=none
   | some (n,v)=> ∃v',r'=some (n,v')∧R ρ j v v'∧i≤n∧(∃e x,es[n-i]? =some e∧xs[n-i]? =some x∧e.val=v∧x.val=v'∧R ρ j e.key x.key))
 | [], xs,i,r,hr,h=>by
  have e:xs= []:=hr;subst e;unfold zkP at h;cases h;exact ⟨none,rfl,rfl⟩
 | e::es,_,i,r,hr,h=>by
  obtain ⟨x,xs,rfl,h1,h2,h3,h4⟩:=hr;unfold zkP at h;split at h
  ·rename_i hb;cases h;refine ⟨some (i,x.val),by unfold Instr.findNow;rw [zex hk h1 hb],x.val,rfl,h2,Nat.le_refl _,e,x,by simp,by simp,rfl,rfl,h1⟩
  ·rename_i hb;obtain ⟨r',h5,h6⟩:=zbd hk h4 h;refine ⟨r',by unfold Instr.findNow;rw [zex hk h1 hb];exact h5,?_⟩;cases r with
   | none=>exact h6
   | some q=>
    obtain ⟨n,v⟩:=q;obtain ⟨v',e1,e2,e3,e',x',e4,e5,e6⟩:=h6;have e3:i+1≤n:=e3;refine ⟨v',e1,e2,by omega,e',x',?_,?_,e6⟩
    ·rw [show n-i=(n-Nat.succ i)+1 by omega];simpa using e4
    ·rw [show n-i=(n-Nat.succ i)+1 by omega];simpa using e5
  ·cases h
theorem ziR {kt:TypeId} {kd:TypeDesc} (hk:P.underlying kt=some kd) (hkd:(∃k,kd= .int k)∨kd= .string) (b:Bool) (n:Nat) (u:Value):(Instr.checkKey b (n+1) kt u).run P w= .ok () w:=by
 rcases hkd with ⟨k,rfl⟩|rfl<;>unfold Instr.checkKey<;>simp only [Sem.run_bind,run_underlying hk,Result.andThen_ok,Sem.run_pure]
theorem run_checkKey {kt:TypeId} {kd:TypeDesc} (hk:P.underlying kt=some kd) (hkd:(∃k,kd= .int k)∨kd= .string) (b:Bool) (u:Value):(Instr.checkKey b 10000 kt u).run P w= .ok () w:=
 ziR hk hkd b 9999 u
theorem run_findKey {kt:TypeId} {kd:TypeDesc} {u:Value} {xs:List MapEntry} {r:Option (Nat×Value)} (hk:P.underlying kt=some kd) (h:Instr.findNow kd u xs 0=some r):(Instr.findKey kt u xs).run P w= .ok r w:=by
 simp only [Instr.findKey,Sem.run_bind,run_underlying hk,Result.andThen_ok,h,Sem.run_pure]
theorem zba {t:TypeId} {z:AV} (h:zgy P t=some z): ∃v,(∀w',(zeroValue t).run P w'= .ok v w')∧R ρ j z v∧ofValue v=some z:=by
 unfold zgy at h;split at h
 ·rename_i i hi;split at h
  ·rename_i v' hz;exact ⟨v',fun w'=>by simp [zeroValue,typeInfo,hi,hz],zle h,h⟩
  ·cases h
 ·cases h
theorem RM.size: ∀ {es:List ME} {xs:List MapEntry},RM ρ j es xs→xs.length=es.length
 | [], xs,h=>by have e:xs= []:=h;rw [e];rfl
 | e::es,_,h=>by obtain ⟨x,xs,rfl,_,_,_,h4⟩:=h;simp [RM.size h4]
def zr0 (w:World) (um:Value) (xs:Array MapEntry):Prop:=(um= .map none∧xs= #[])∨ ∃r c,um= .map (some r)∧w.heap[r]? =some (.map xs c)
theorem zhN (hi:Inv ρ w0 j H w) {m:AV} {um:Value} {es:List ME} (hm:R ρ j m um) (h:entriesA H m=some es): ∃xs:Array MapEntry,RM ρ j es xs.toList∧zr0 w um xs:=by
 unfold entriesA at h;split at h
 ·cases h;simp only [R] at hm;subst hm;exact ⟨#[],rfl,.inl ⟨rfl,rfl⟩⟩
 ·split at h
  ·rename_i es' c hma;cases h;obtain ⟨L,hj,rfl⟩:=hm;obtain ⟨arr,h1,h2⟩:=hi.mapAt hj hma;exact ⟨arr,h2,.inr ⟨_,_,rfl,h1⟩⟩
  ·cases h
 ·cases h
theorem zcI {t kt et:TypeId} {kd:TypeDesc} {um uk v':Value} {xs:Array MapEntry} {n:Nat} {ok:Bool} (hu:P.underlying t=some (.map kt et)) (hkt:P.underlying kt=some kd) (hkd:(∃k,kd= .int k)∨kd= .string)
  (hm:zr0 w um xs) (hf:Instr.findNow kd uk xs.toList 0=some (some (n,v'))):(Instr.lookup t um uk ok).run P w= .ok (if ok then .tuple #[v',.bool true] else v') w:=by
 unfold Instr.lookup;rcases hm with ⟨rfl,rfl⟩|⟨r,c,rfl,hr⟩
 ·simp only [Sem.run_bind,run_underlying hu,Result.andThen_ok,Sem.run_pure,run_checkKey hkt hkd,run_findKey hkt hf]
 ·simp only [Sem.run_bind,run_underlying hu,Result.andThen_ok,run_getObj_map P hr,Sem.run_pure,run_checkKey hkt hkd,run_findKey hkt hf]
theorem zdh {t kt et:TypeId} {kd:TypeDesc} {um uk z:Value} {xs:Array MapEntry} {ok:Bool} (hu:P.underlying t=some (.map kt et)) (hkt:P.underlying kt=some kd) (hkd:(∃k,kd= .int k)∨kd= .string)
  (hm:zr0 w um xs) (hf:Instr.findNow kd uk xs.toList 0=some none) (hz:(zeroValue et).run P w= .ok z w):(Instr.lookup t um uk ok).run P w= .ok (if ok then .tuple #[z,.bool false] else z) w:=by
 unfold Instr.lookup;rcases hm with ⟨rfl,rfl⟩|⟨r,c,rfl,hr⟩
 ·simp only [Sem.run_bind,run_underlying hu,Result.andThen_ok,Sem.run_pure,run_checkKey hkt hkd,run_findKey hkt hf,hz]
 ·simp only [Sem.run_bind,run_underlying hu,Result.andThen_ok,run_getObj_map P hr,Sem.run_pure,run_checkKey hkt hkd,run_findKey hkt hf,hz]
theorem zez {kd:TypeDesc} {k:AV} {u:Value} (hk:R ρ j k u): ∀ {kn:List (AV×Option AV)} {m0:List (Int×Option Value)} {r:Option AV},RX ρ j kn m0→zoX kd k kn=some r→
  ∃ x o,(x,o)∈m0∧RO ρ j r o∧Instr.sameNow kd u (.int .i64 x)=some true
 | [], m0,r,hr,h=>by unfold zoX at h;cases h
 | e::l,_,r,hr,h=>by
  obtain ⟨x,o,m',rfl,h1,h2,h3⟩:=hr;unfold zoX at h;split at h
  ·rename_i hb;cases h;exact ⟨x,o,by simp,h2,zex hk h1 hb⟩
  ·obtain ⟨y,o',h4,h5⟩:=zez hk h3 h;exact ⟨y,o',by simp [h4],h5⟩
  ·cases h
theorem zbe {n:Nat} {kn log:List (AV×Option AV)} (h:H.mapxAt n=some (kn,log)):H.m.get n=some (.mapx kn log):=by
 unfold Heap.mapxAt at h;split at h
 ·rename_i hm;cases h;exact hm
 ·cases h
theorem zi6 (hi:Inv ρ w0 j H w) {t et:TypeId} {kd:TypeDesc} (hmo:mapOf P t=some (kd,et)) {m k:AV} {um uk:Value} {ok:Bool} (hm:R ρ j m um) (hk:R ρ j k uk) (h:lookupX P H kd et m k ok=some v):
  ∃ v',(Instr.lookup t um uk ok).run P w= .ok v' w∧R ρ j v v':=by
 obtain ⟨kt,hu,hkt,hkd⟩:=ze0 hmo;unfold lookupX at h;split at h
 case h_2=>cases h
 rename_i n;split at h
 case h_2=>cases h
 rename_i kn log hmx hik;obtain ⟨L,hj,rfl⟩:=hm;obtain ⟨ob,h1,h2⟩:=hi.obj n L hj;rw [zbe hmx] at h1;cases h1;obtain ⟨_,_,_,arr,clock,arr0,clock0,m0,m1,h3,_,⟨hwf,_,_⟩,h6,_,h8,_⟩:=h2;split at h
 ·cases h
 all_goals
  rename_i hf;obtain ⟨x,o,g1,g2,g3⟩:=zez hk h6 hf;have hv:=h8 x o g1;have hkx: ∃kk,kd= .int kk∧uk= .int .i64 x:=by
   cases kd<;>cases uk<;>simp only [Instr.sameNow] at g3<;>try cases g3
   rename_i kk kk' a;split at g3
   ·rename_i hkk;subst hkk;have:a=x:=by simpa using g3
    exact ⟨kk,rfl,by rw [this]⟩
   ·cases g3
  obtain ⟨kk,rfl,rfl⟩:=hkx;have hmi:zr0 w (.map (some L.blk)) arr:= .inr ⟨L.blk,clock,rfl,h3⟩
 ·cases h;obtain ⟨u,rfl,hu'⟩:=g2;rcases zbc (kk:=kk) (n:=x) arr.toList 0 hwf.keys with ⟨_,e2⟩|⟨p,e,e1,e2,e3⟩
  ·rw [zb1 e2] at hv;cases hv
  ·rw [zbv hwf (List.mem_of_getElem? e2) e3] at hv;cases hv;refine ⟨_,zcI hu hkt hkd hmi e1,?_⟩;cases ok
   ·exact hu'
   ·exact ⟨_,rfl,.two hu' rfl⟩
 ·have g2:o=none:=g2;subst g2;split at h
  ·cases h
  ·rename_i z hz;cases h;obtain ⟨z',z2,z3,_⟩:=zba (ρ:=ρ) (j:=j) hz;rcases zbc (kk:=kk) (n:=x) arr.toList 0 hwf.keys with ⟨e1,_⟩|⟨p,e,e1,e2,e3⟩
   ·refine ⟨_,zdh hu hkt hkd hmi e1 (z2 w),?_⟩;cases ok
    ·exact z3
    ·exact ⟨_,rfl,.two z3 rfl⟩
   ·rw [zbv hwf (List.mem_of_getElem? e2) e3] at hv;cases hv
theorem zi7 (hi:Inv ρ w0 j H w) {t:TypeId} {m k:AV} {um uk:Value} {ok:Bool} (hm:R ρ j m um) (hk:R ρ j k uk) (h:lookupA P H t m k ok=some v):
  ∃ v',(Instr.lookup t um uk ok).run P w= .ok v' w∧R ρ j v v':=by
 unfold lookupA at h;split at h
 ·cases h
 ·rename_i kd et hmo;obtain ⟨kt,hu,hkt,hkd⟩:=ze0 hmo;split at h
  ·exact zi6 hi hmo hm hk h
  ·rename_i es hes;obtain ⟨xs,hr,hmi⟩:=zhN hi hm hes;split at h
   ·cases h
   ·split at h
    ·cases h
    ·rename_i n a' hf;cases h;obtain ⟨r',h1,v',rfl,h3,_⟩:=zbd hk hr hf;refine ⟨_,zcI hu hkt hkd hmi h1,?_⟩;cases ok
     ·exact h3
     ·exact ⟨_,rfl,.two h3 rfl⟩
    ·rename_i hf;obtain ⟨r',h1,rfl⟩:=zbd hk hr hf;split at h
     ·cases h
     ·rename_i z hz;cases h;obtain ⟨z',h2,h3,_⟩:=zba (ρ:=ρ) (j:=j) hz;refine ⟨_,zdh hu hkt hkd hmi h1 (h2 w),?_⟩;cases ok
      ·exact h3
      ·exact ⟨_,rfl,.two h3 rfl⟩
theorem zjb (hi:Inv ρ w0 j H w) (he:ER ρ j N env a) {t:TypeId} {x i:Operand} {ok:Bool} (ho:o.op= .lookup t x i ok) (h:zhe P t x i ok env H=some v):LS P ρ j w a o v:=by
 unfold zhe at h;split at h
 ·rename_i m k hm hk;obtain ⟨v',h1,h2⟩:=zi7 hi (zag he hm) (zag he hk) h;refine ⟨v',?_,h2⟩;simp only [execOp,ho,Sem.run_bind,h1,Result.andThen_ok,Sem.run_pure]
 ·cases h
theorem zf7 {c:Call} {b:Builtin} {u:Value} (ho:o.op= .call c) (hc:c.callee= .builtin b) {f:Array TypeId→TypeId→Array Value→Sem Value}
  (hb: ∀ats ty cs args,builtin b ats ty cs args=(do pure (.value (←f ats ty args)))) (h:(f c.argTypes o.type (c.args.map a.eval)).run P w= .ok u w):(execOp a.eval o).run P w= .ok (.value u) w:=by
 simp only [execOp,ho,resolve,hc,Sem.run_bind,Sem.run_pure,Result.andThen_ok,invoke,hb,h]
theorem zeu {n:Nat} {x:AV} (h:natV n=some x):x= .int .i64 (.lit (.ofNat n)):=by
 unfold natV at h;rw [zbK] at h;exact (Option.some.inj h).symm
theorem ztD {c:Call} {x:Operand} (h:c.args.toList= [x]):c.args.map a.eval= #[a.eval x]:=by
 apply Array.ext';simp [h]
theorem zci {c:Call} {t:TypeId} {l:List TypeId} (h:c.argTypes.toList=t::l):c.argTypes[0]? =some t:=by
 rw [←Array.getElem?_toList,h];rfl
theorem zkv (hi:Inv ρ w0 j H w) {d:TypeDesc} {t:TypeId} {x:AV} {u:Value} {ats:Array TypeId} {ty:TypeId} (hx:R ρ j x u) (hd:P.underlying t=some d) (ht:ats[0]? =some t) (h:lenOfA (some d) H x=some v):
  ∃ v',(Builtin.len_ ats ty #[u]).run P w= .ok v' w∧R ρ j v v':=by
 unfold lenOfA at h;split at h
 ·rename_i heq;cases heq;split at h
  ·have:=zeu h;subst this;simp only [R] at hx;subst hx;exact ⟨_,by unfold Builtin.len_;simp only [ht,List.getElem?_toArray,List.getElem?_cons_zero,Sem.run_bind,run_underlying hd,Result.andThen_ok];rfl,rfl⟩
  ·have:=zeu h;subst this;obtain ⟨p,c,rfl⟩:=hx;exact ⟨_,by unfold Builtin.len_;simp only [ht,List.getElem?_toArray,List.getElem?_cons_zero,Sem.run_bind,run_underlying hd,Result.andThen_ok];rfl,rfl⟩
  ·have:=zeu h;subst this;obtain ⟨L,_,_,rfl⟩:=hx;exact ⟨_,by unfold Builtin.len_;simp only [ht,List.getElem?_toArray,List.getElem?_cons_zero,Sem.run_bind,run_underlying hd,Result.andThen_ok];rfl,rfl⟩
  ·cases h;obtain ⟨b,l,c,rfl,hl⟩:=hx;exact ⟨_,by unfold Builtin.len_;simp only [ht,List.getElem?_toArray,List.getElem?_cons_zero,Sem.run_bind,run_underlying hd,Result.andThen_ok];rfl,by show Value.int .i64 _=_;rw [←hl];rfl⟩
  ·cases h;obtain ⟨b,l,c,rfl,hl⟩:=hx.2.2 _ rfl;exact ⟨_,by unfold Builtin.len_;simp only [ht,List.getElem?_toArray,List.getElem?_cons_zero,Sem.run_bind,run_underlying hd,Result.andThen_ok];rfl,by show Value.int .i64 _=_;rw [←hl];rfl⟩
  ·cases h;obtain ⟨b,l,c,rfl,hl⟩:=hx.2.2 _ rfl;exact ⟨_,by unfold Builtin.len_;simp only [ht,List.getElem?_toArray,List.getElem?_cons_zero,Sem.run_bind,run_underlying hd,Result.andThen_ok];rfl,by show Value.int .i64 _=_;rw [←hl];rfl⟩
  ·cases h;obtain ⟨_,b,l,c,rfl,hl,_⟩:=hx;exact ⟨_,by unfold Builtin.len_;simp only [ht,List.getElem?_toArray,List.getElem?_cons_zero,Sem.run_bind,run_underlying hd,Result.andThen_ok];rfl,by show Value.int .i64 _=_;rw [←hl];rfl⟩
  ·cases h
 ·rename_i heq;cases heq;split at h
  ·have:=zeu h;subst this;obtain ⟨g,rfl⟩:=hx;refine ⟨_,by unfold Builtin.len_;simp only [ht,List.getElem?_toArray,List.getElem?_cons_zero,Sem.run_bind,run_underlying hd,Result.andThen_ok];rfl,?_⟩;simp [R,goInt,SE.den,ByteArray.size]
  ·cases h
 ·rename_i heq;cases heq;have:=zeu h;subst this;exact ⟨_,by unfold Builtin.len_;simp only [ht,List.getElem?_toArray,List.getElem?_cons_zero,Sem.run_bind,run_underlying hd,Result.andThen_ok];rfl,rfl⟩
 ·rename_i heq;cases heq;split at h
  ·have:=zeu h;subst this;simp only [R] at hx;subst hx;exact ⟨_,by unfold Builtin.len_;simp only [ht,List.getElem?_toArray,List.getElem?_cons_zero,Sem.run_bind,run_underlying hd,Result.andThen_ok];rfl,rfl⟩
  ·split at h
   ·rename_i es c hm;have:=zeu h;subst this;obtain ⟨L,hj,rfl⟩:=hx;obtain ⟨arr,h1,h2⟩:=hi.mapAt hj hm;refine ⟨goInt arr.size,?_,?_⟩
    ·unfold Builtin.len_;simp only [ht,List.getElem?_toArray,List.getElem?_cons_zero,Sem.run_bind,run_underlying hd,Result.andThen_ok,run_getObj_map P h1,Sem.run_pure]
    ·have:=RM.size h2;rw [Array.length_toList] at this;simp [R,goInt,SE.den];omega
   ·cases h
  ·cases h
 ·cases h
theorem zoP (hi:Inv ρ w0 j H w) (he:ER ρ j N env a) {c:Call} (ho:o.op= .call c) (hc:c.callee= .builtin .len) (h:lLen P c.argTypes.toList c.args.toList env H=some v):LS P ρ j w a o v:=by
 unfold lLen at h;split at h
 ·rename_i t l x hts hxs;split at h
  ·rename_i u hx;cases hd:P.underlying t with
   | none=>rw [hd] at h;cases h
   | some d=>
    rw [hd] at h;obtain ⟨v',h1,h2⟩:=zkv (P:=P) (ty:=o.type) hi (zag he hx) hd (zci hts) h;exact ⟨v',zf7 ho hc (fun _ _ _ _=>rfl) (by rw [ztD hxs];exact h1),h2⟩
  ·cases h
 ·cases h
theorem zdn: ∀(cs:List AV) (off:Nat) (vs:List AV),(putL cs off vs).length=cs.length
 | [], _,_=>by unfold putL;rfl
 | c::cs,0,[]=>by unfold putL;rfl
 | c::cs,0,v::vs=>by unfold putL;simp [zdn cs 0 vs]
 | c::cs,o+1,vs=>by unfold putL;simp [zdn cs o vs]
theorem zdT: ∀(cs:List AV) (off:Nat) (vs:List AV) (i:Nat),i<cs.length→(putL cs off vs)[i]? =if off≤i∧i<off+vs.length then vs[i-off]? else cs[i]?
 | [], _,_,_,h=>by simp at h
 | c::cs,0,[],i,h=>by unfold putL;rw [if_neg (by simp)]
 | c::cs,0,v::vs,0,h=>by unfold putL;simp
 | c::cs,0,v::vs,i+1,h=>by
  unfold putL;simp only [List.getElem?_cons_succ];rw [zdT cs 0 vs i (by simpa using h)];by_cases hc:i<vs.length
  ·rw [if_pos (by omega),if_pos (by simp;omega)];simp
  ·rw [if_neg (by omega),if_neg (by simp;omega)]
 | c::cs,o+1,vs,0,h=>by unfold putL;simp
 | c::cs,o+1,vs,i+1,h=>by
  unfold putL;simp only [List.getElem?_cons_succ];rw [zdT cs o vs i (by simpa using h)];by_cases hc:o≤i∧i<o+vs.length
  ·rw [if_pos hc,if_pos (by omega)];congr 1;omega
  ·rw [if_neg hc,if_neg (by omega)]
theorem znE: ∀(vs:List Value) (k off:Nat) (A:Array Value),off+k+vs.length≤A.size→
  ((vs.zipIdx k).foldl (fun cs (x:Value×Nat)=>cs.setIfInBounds (off+x.2) x.1) A).size=A.size∧
  ∀ i,((vs.zipIdx k).foldl (fun cs (x:Value×Nat)=>cs.setIfInBounds (off+x.2) x.1) A)[i]? =if off+k≤i∧i<off+k+vs.length then vs[i-(off+k)]? else A[i]?
 | [], k,off,A,_=>⟨rfl,fun i=>by rw [if_neg (by simp)];rfl⟩
 | v::vs,k,off,A,h=>by
  simp only [List.zipIdx_cons,List.foldl_cons];obtain ⟨h1,h2⟩:=znE vs (k+1) off (A.setIfInBounds (off+k) v) (by simp at h ⊢;omega);refine ⟨by rw [h1];simp,fun i=> ?_⟩;rw [h2];by_cases hk:i=off+k
  ·subst hk;rw [if_neg (by omega),if_pos (by simp)];simp at h;simp [show off+k<A.size by omega]
  ·by_cases hc:off+(k+1)≤i∧i<off+(k+1)+vs.length
   ·rw [if_pos hc,if_pos (by simp;omega)];rw [show i-(off+k)=(i-(off+(k+1)))+1 by omega];simp
   ·rw [if_neg hc,if_neg (by simp;omega),Array.getElem?_setIfInBounds_ne (by omega)]
theorem zdj (he:ER ρ j N env a): ∀ {ps:List (Nat×Operand)} {m:List (Nat×AV)},partsOf env ps=some m→
  ∃ qs:List (Nat×Value),ps.map (fun (i,x)=>(i,a.eval x))=qs∧m.map (·.1)=qs.map (·.1)∧RL ρ j (m.map (·.2)) (qs.map (·.2))
 | [], m,h=>by unfold partsOf at h;cases h;exact ⟨[],rfl,rfl,rfl⟩
 | p::ps,m,h=>by
  unfold partsOf at h;split at h
  ·cases h
  ·rename_i x hx;split at h
   ·rename_i m' hm;cases h;obtain ⟨qs,h1,h2,h3⟩:=zdj he hm;exact ⟨(p.1,a.eval p.2)::qs,by simp [h1],by simp [h2],.cons (zag he hx) h3⟩
   ·cases h
theorem zdr {place place':Nat→Option (Nat×Nat)} (hp: ∀i x,place i=some x→place' i=some x): ∀ {ps:List (Nat×AV)} {qs:List (Nat×Value)} {cs l:List AV} {A:Array Value},ps.map (·.1)=qs.map (·.1)→RL ρ j (ps.map (·.2)) (qs.map (·.2))→
  RL ρ j cs A.toList→zl7 place cs ps=some l→ ∃B,Instr.fill place' A qs=some B∧RL ρ j l B.toList
 | [], qs,cs,l,A,h1,h2,h3,h=>by
  have e:qs= []:=by simpa using h1.symm
  subst e;unfold zl7 at h;cases h;exact ⟨A,rfl,h3⟩
 | p::ps,[],cs,l,A,h1,h2,h3,h=>by simp at h1
 | p::ps,q::qs,cs,l,A,h1,h2,h3,h=>by
  simp only [List.map_cons,List.cons.injEq] at h1;obtain ⟨hi,h1⟩:=h1;obtain ⟨v,m,heq,hv,h2⟩:=h2;simp only [List.map_cons,List.cons.injEq] at heq;obtain ⟨hq,rfl⟩:=heq;subst hq;unfold zl7 at h;split at h
  ·cases h
  ·rename_i off size hpl;split at h
   case h_2=>cases h
   rename_i hb hle;have hb:=zaj hb;have hle:off+size≤cs.length:=Nat.le_of_ble_eq_true hle;have hcl:=zcF hv;have hlen:=hcl.length;have hA:=h3.length;simp only [Array.length_toList] at hlen hA;have hfold:=znE q.2.cells.toList 0 off A (by simp;omega);have hgood:RL ρ j (putL cs off p.2.cells) (q.2.cells.toList.zipIdx.foldl (fun cs (x:Value×Nat)=>cs.setIfInBounds (off+x.2) x.1) A).toList:=by
    refine RL.of_get (by rw [Array.length_toList,hfold.1,zdn,hA]) fun i x hx=> ?_;have hlt:i<cs.length:=by
     rcases Nat.lt_or_ge i cs.length with h'|h'
     ·exact h'
     ·rw [List.getElem?_eq_none (by rw [zdn];exact h')] at hx;cases hx
    rw [zdT _ _ _ _ hlt] at hx;rw [Array.getElem?_toList,hfold.2];simp only [Nat.add_zero,Array.length_toList];by_cases hc:off≤i∧i<off+p.2.cells.length
    ·rw [if_pos hc] at hx;rw [if_pos (by omega)];exact hcl.get _ _ hx
    ·rw [if_neg hc] at hx;rw [if_neg (by omega)];have:=h3.get i x hx;simpa using this
   obtain ⟨B,h5,h6⟩:=zdr hp h1 h2 hgood h;refine ⟨B,?_,h6⟩;unfold Instr.fill;rw [←hi,hp _ _ hpl];simp only;rw [if_neg]
   ·have e:(q.2.cells.zipIdx.foldl (fun cs (x:Value×Nat)=>cs.setIfInBounds (off+x.2) x.1) A)=(q.2.cells.toList.zipIdx.foldl (fun cs (x:Value×Nat)=>cs.setIfInBounds (off+x.2) x.1) A):=by
     rw [←Array.foldl_toList];simp
    rw [←e] at h5;exact h5
   ·simp;omega
theorem zlV (hi:Inv ρ w0 j H w) (he:ER ρ j N env a) {c:Call} (ho:o.op= .call c) (h:zjc P c env H=some v):LS P ρ j w a o v:=by
 cases hc:c.callee with
 | value f=>simp only [zjc,hc] at h;cases h
 | invoke r n=>simp only [zjc,hc] at h;cases h
 | builtin b=>
  cases b<;>simp only [zjc,hc] at h<;>try (cases h;done)
  case len=>exact zoP hi he ho hc h
theorem zeX (w:World): ∀ {fs:List Field} {pl:List (Nat×Nat)},zgV P fs=some pl→(fs.mapM fun f=>(do pure (f.offset,←sizeOf f.type):Sem (Nat×Nat))).run P w= .ok pl w
 | [], pl,h=>by unfold zgV at h;cases h;rfl
 | f::fs,pl,h=>by
  unfold zgV at h;split at h
  ·cases h
  ·rename_i s hs;split at h
   ·rename_i m hm;cases h;have ih:=zeX w hm;simp only [List.mapM_cons,Sem.run_bind,run_sizeOf hs,Result.andThen_ok,Sem.run_pure,ih]
   ·cases h
theorem zqC: ∀(l:List (Nat×Nat)) (i:Nat),nthP l i=l[i]?
 | [], i=>by simp [nthP]
 | a::l,0=>rfl
 | a::l,i+1=>by show nthP l i=_;rw [zqC l i];simp
theorem zkA (he:ER ρ j N env a) {t:TypeId} {parts:Array (Nat×Operand)} (ho:o.op= .build t parts) (h:zqS P t parts env H=some v):LS P ρ j w a o v:=by
 have h:zn3 P env t parts.toList=some v:=h;unfold zn3 at h;split at h
 case h_2=>cases h
 rename_i z ps hz hps;obtain ⟨z',hz1,hz2,_⟩:=zba (ρ:=ρ) (j:=j) hz;obtain ⟨qs,hq1,hq2,hq3⟩:=zdj he hps;have hparts:(parts.map fun (i,x)=>(i,a.eval x)).toList=qs:=by rw [Array.toList_map];exact hq1
 split at h
 ·rename_i fs hu;split at h
  ·rename_i pl hpl;split at h
   ·rename_i l hl;cases h;have hm:=zeX w hpl;have hm2:(fs.mapM fun f=>(do pure (f.offset,←sizeOf f.type):Sem (Nat×Nat))).run P w= .ok pl.toArray w:=by
     rw [Array.mapM_eq_mapM_toList,Sem.run_map,hm];rfl
    obtain ⟨B,h1,h2⟩:=zdr (place':=(pl.toArray[·]?)) (fun i x hx=>by rw [zqC] at hx;simpa using hx) hq2 hq3 (zcF hz2) hl;refine ⟨.agg B,?_,_,by simp,h2⟩;simp only [execOp,ho,Instr.build,Sem.run_bind,hz1,Result.andThen_ok,run_underlying hu,hm2,hparts,h1,Sem.run_pure]
   ·cases h
  ·cases h
 ·rename_i n e hu;split at h
  ·rename_i s hs;split at h
   ·rename_i l hl;cases h;obtain ⟨B,h1,h2⟩:=zdr (place':=fun i=>some (i*s,s)) (fun i x hx=>hx) hq2 hq3 (zcF hz2) hl;refine ⟨.agg B,?_,_,by simp,h2⟩;simp only [execOp,ho,Instr.build,Sem.run_bind,hz1,Result.andThen_ok,run_underlying hu,run_sizeOf hs,hparts,h1,Sem.run_pure]
   ·cases h
  ·cases h
 ·cases h
theorem zew (hi:Inv ρ w0 j H w) (he:ER ρ j N env a) (h:light P o.op env H=some v):LS P ρ j w a o v:=by
 cases ho:o.op<;>rw [ho] at h
 case move=>exact zhc (H:=H) he (.inl ho) h
 case assign=>exact zhc (H:=H) he (.inr ho) h
 case pick=>exact zlT (H:=H) he ho h
 case build=>exact zkA (H:=H) he ho h
 case load=>exact zlU hi he ho h
 case nilCheck=>exact zhb (H:=H) he ho h
 case binOp=>exact zkB hi he ho h
 case unOp=>exact zlS (H:=H) he ho h
 case convert=>exact zhM hi he ho h
 case sliceToArrayPointer=>exact zjd (H:=H) he ho h
 case makeFunc=>exact zhd (H:=H) he ho h
 case slice=>exact zkx hi he ho h
 case fieldAddr=>exact zgc (H:=H) he ho h
 case field=>exact zkz (H:=H) he ho h
 case indexAddr=>exact zgb (H:=H) he ho h
 case index=>exact zky (H:=H) he ho h
 case lookup=>exact zjb hi he ho h
 case extract=>exact zhL (H:=H) he ho h
 case call=>exact zlV hi he ho h
 all_goals cases h
end
end Go.Dw
namespace Go.Dw
section
variable {P:Program} {ρ:Val} {w0:Cx} {j:J} {H:Heap} {w:World} {N:Nat} {env:T AV} {a:Act} {o:Oper}
def AS (P:Program) (ρ:Val) (j:J) (w:World) (a:Act) (o:Oper) (nx:Nat) (v:AV) (ob:Obj):Prop:=
 ∃ u obj,(execOp a.eval o).run P w= .ok (.value u) { w with heap:=w.heap.push obj }∧NewR ρ j ob obj 0∧R ρ (jset j nx ⟨w.heap.size,0,0,none⟩) v u
def zic (nx:Nat):Obj→Prop
 | .cells _ _ g _ _ _=>g=nx
 | _=>True
theorem zfr {l:List AV} {xs:List Value} {s nx:Nat} {e:TypeId} (h:RL ρ j l xs):NewR ρ j (zbZ l s nx) (.cells xs.toArray e (0,0)) 0:=by
 refine ⟨rfl,rfl,xs.toArray,e,rfl,?_,⟨by simp,fun hh=>by cases hh⟩,fun i hi=> ?_⟩
 ·rw [Vec.n_ofList];simp [h.length]
 ·rw [Vec.n_ofList] at hi;rw [Vec.get_ofList l i hi];obtain ⟨x,h1,h2⟩:=h.get i _ (List.getElem?_eq_getElem hi);exact ⟨x,by simpa using h1,h2⟩
theorem zid (t:TypeId) (u:Value):(newVar t u).run P w= .ok ⟨w.heap.size,0,none⟩ { w with heap:=w.heap.push (.cells u.cells t (0,0)) }:=rfl
theorem zlc {t:TypeId} {nx:Nat} {v:AV} {ob:Obj} (ho:o.op= .alloc t) (h:zld P t nx=some (v,ob)):AS P ρ j w a o nx v ob∧zic nx ob:=by
 unfold zld at h;split at h
 ·rename_i z s hz hs;cases h;obtain ⟨z',h1,h2,_⟩:=zba (ρ:=ρ) (j:=j) hz;refine ⟨⟨.pointer (some ⟨w.heap.size,0,none⟩),_,?_,zfr (e:=t) (zcF h2),_,za4 _ _ _,rfl⟩,rfl⟩;simp only [execOp,ho,Instr.alloc,Sem.run_bind,h1,Result.andThen_ok,zid,Sem.run_pure,Array.toArray_toList]
 ·cases h
theorem zpa (he:ER ρ j N env a) {t:TypeId} {x:Operand} {nx:Nat} {v:AV} {ob:Obj} (ho:o.op= .box t x) (h:aBox P t x env nx=some (v,ob)):AS P ρ j w a o nx v ob∧zic nx ob:=by
 unfold aBox at h;split at h
 ·rename_i u s hx hs;cases h;have h2:=zag he hx;refine ⟨⟨.pointer (some ⟨w.heap.size,0,none⟩),_,?_,zfr (e:=t) (zcF h2),_,za4 _ _ _,rfl⟩,rfl⟩;simp only [execOp,ho,Instr.box,Sem.run_bind,zid,Result.andThen_ok,Sem.run_pure,Array.toArray_toList]
 ·cases h
theorem zcp: ∀(n:Nat) (l:List AV),(repL n l).length=n*l.length
 | 0,l=>by simp [repL]
 | n+1,l=>by unfold repL;rw [List.length_append,zcp n l,Nat.succ_mul];omega
theorem zdS: ∀(n:Nat) (l:List AV) (i:Nat),i<n*l.length→(repL n l)[i]? =l[i%l.length]?
 | 0,l,i,h=>by simp at h
 | n+1,l,i,h=>by
  unfold repL;by_cases hi:i<l.length
  ·rw [List.getElem?_append_left hi,Nat.mod_eq_of_lt hi]
  ·rw [List.getElem?_append_right (by omega),zdS n l (i-l.length) (by rw [Nat.succ_mul] at h;omega)];congr 1;rw [←Nat.mod_eq_sub_mod (by omega)]
theorem zgx {z:AV} {u:Value} {n i:Nat} (hz:R ρ j z u) (hi:i<n) (hpos:0<z.cells.length):
  ∃ x c,((Array.range n).map (u.cells[· %u.cells.size]!))[i]? =some x∧z.cells[i%z.cells.length]? =some c∧R ρ j c x:=by
 have hr:=zcF hz;have hlen:=hr.length;rw [Array.length_toList] at hlen;have hlt:i%z.cells.length<z.cells.length:=Nat.mod_lt _ hpos;obtain ⟨x,h1,h2⟩:=hr.get _ _ (List.getElem?_eq_getElem hlt);refine ⟨x,_,?_,List.getElem?_eq_getElem hlt,h2⟩;rw [Array.getElem?_map,Array.getElem?_range,if_pos hi,Option.map_some];congr 1;rw [hlen];have h1:u.cells[i%z.cells.length]? =some x:=by simpa using h1
 rw [getElem!_def,h1]
theorem zwK {z:AV} {u:Value} {n:Nat} (hz:R ρ j z u):RL ρ j (repL n z.cells) ((Array.range (n*z.cells.length)).map (u.cells[· %u.cells.size]!)).toList:=by
 refine RL.of_get (by simp [zcp]) fun i c hc=> ?_;have hi:i<n*z.cells.length:=by
  rcases Nat.lt_or_ge i (n*z.cells.length) with h|h
  ·exact h
  ·rw [List.getElem?_eq_none (by rw [zcp];exact h)] at hc;cases hc
 have hpos:0<z.cells.length:=by
  rcases Nat.eq_zero_or_pos z.cells.length with h|h
  ·rw [h] at hi;simp at hi
  ·exact h
 rw [zdS n z.cells i hi] at hc;obtain ⟨x,c',h1,h2,h3⟩:=zgx (n:=n*z.cells.length) hz hi hpos;rw [h2] at hc;cases hc;exact ⟨x,by rw [Array.getElem?_toList];exact h1,h3⟩
theorem zfL (he:ER ρ j N env a) {t:TypeId} {len nx:Nat} {parts:Array (Nat×Operand)} {v:AV} {ob:Obj} (ho:o.op= .buildSlice t len parts) (h:zbW P t len parts env nx=some (v,ob)):AS P ρ j w a o nx v ob∧zic nx ob:=by
 unfold zbW at h;split at h
 case h_2=>cases h
 rename_i e hu;split at h
 case h_2=>cases h
 rename_i s z ps hs hz hps;split at h
 case h_2=>cases h
 rename_i hle hb;have hle:len*s≤16777216:=Nat.le_of_ble_eq_true hle;have hb:=zaj hb;split at h
 case h_2=>cases h
 rename_i l hl;cases h;obtain ⟨z',hz1,hz2,_⟩:=zba (ρ:=ρ) (j:=j) hz;obtain ⟨qs,hq1,hq2,hq3⟩:=zdj he hps;have hparts:(parts.map fun (i,x)=>(i,a.eval x)).toList=qs:=by rw [Array.toList_map];exact hq1
 have hrep:=zwK (n:=len) hz2;rw [hb] at hrep;obtain ⟨B,h1,h2⟩:=zdr (place':=fun i=>some (i*s,s)) (fun i x hx=>hx) hq2 hq3 hrep hl;refine ⟨⟨.slice (some ⟨w.heap.size,0,none⟩) len len,.cells B e (0,0),?_,?_,_,za4 _ _ _,Nat.le_refl _,rfl⟩,rfl⟩
 ·simp only [execOp,ho,Instr.buildSlice,Sem.run_bind,run_underlying hu,Result.andThen_ok,run_sizeOf hs];rw [if_neg (by omega)];by_cases h0:len*s=0
  ·have e1:((Array.range (len*s)).map ((#[]:Array Value)[· %(#[]:Array Value).size]!))=((Array.range (len*s)).map (z'.cells[· %z'.cells.size]!)):=by simp [h0]
   rw [if_pos h0];simp only [Sem.run_bind,Sem.run_pure,Result.andThen_ok,e1,hparts,h1];rfl
  ·rw [if_neg h0];simp only [Sem.run_bind,Sem.run_pure,Result.andThen_ok,hz1,hparts,h1];rfl
 ·have:=zfr (s:=s) (nx:=nx) (e:=e) h2;simpa using this
theorem zhO (he:ER ρ j N env a) {t:TypeId} {r:Option Operand} {nx:Nat} {v:AV} {ob:Obj} (ho:o.op= .makeMap t r) (h:zei P t r env nx=some (v,ob)):AS P ρ j w a o nx v ob∧zic nx ob:=by
 unfold zei at h;split at h
 ·cases h;refine ⟨⟨.map (some w.heap.size),.map #[] 0,?_,⟨rfl,#[],rfl,rfl⟩,_,za4 _ _ _,rfl⟩,trivial⟩;simp only [execOp,ho,Instr.makeMap,Option.map_none,Sem.run_bind,run_newObj,Result.andThen_ok,Sem.run_pure]
 ·split at h
  ·rename_i r' kt et n hu hn;cases h;obtain ⟨k,hk⟩:=zbT he hn;refine ⟨⟨.map (some w.heap.size),.map #[] 0,?_,⟨rfl,#[],rfl,rfl⟩,_,za4 _ _ _,rfl⟩,trivial⟩;simp only [execOp,ho,Instr.makeMap,Option.map_some,hk,Sem.run_bind,run_underlying hu,asInt,asIntOf,run_newObj,Result.andThen_ok,Sem.run_pure]
  ·cases h
theorem zoe: ∀ {l:List AV} {u:AV},uniform l=some u→ ∀c∈l,c=u:=by
 intro l u h;unfold uniform at h;split at h
 ·cases h
 ·rename_i x l';split at h
  ·rename_i hg;cases h;have key: ∀l':List AV,uniform.go u l'=true→ ∀c∈l',c=u:=by
    intro l'
    induction l' with
    | nil=>intro _ c hc;cases hc
    | cons b l' ih=>
     intro hg c hc;unfold uniform.go at hg;split at hg
     ·rename_i hb;rcases List.mem_cons.1 hc with rfl|hc
      ·exact AV.beq_eq hb
      ·exact ih hg c hc
     ·cases hg
   intro c hc;rcases List.mem_cons.1 hc with rfl|hc
   ·rfl
   ·exact key _ hg c hc
  ·cases h
theorem zlA {z:AV} {u:Value} {c s:Nat} {r:Vec} (hz:R ρ j z u) (hs:z.cells.length=s) (h:rowOf z.cells c s=some r):
  r.n=c*s∧ ∀i,i<c*s→ ∃x,((Array.range (c*s)).map (u.cells[· %u.cells.size]!))[i]? =some x∧R ρ j (r.get i) x:=by
 subst hs;unfold rowOf at h;have hpos: ∀i,i<c*z.cells.length→0<z.cells.length:=fun i hi=>by
  rcases Nat.eq_zero_or_pos z.cells.length with h|h
  ·rw [h] at hi;simp at hi
  ·exact h
 split at h
 ·rename_i q hq;cases h;refine ⟨rfl,fun i hi=> ?_⟩;obtain ⟨x,c',h1,h2,h3⟩:=zgx (n:=c*z.cells.length) hz hi (hpos i hi);refine ⟨x,h1,?_⟩;have:=zoe hq c' (List.mem_of_getElem? h2);subst this;exact h3
 ·split at h
  ·cases h;refine ⟨by rw [Vec.n_ofList,zcp],fun i hi=> ?_⟩;obtain ⟨x,c',h1,h2,h3⟩:=zgx (n:=c*z.cells.length) hz hi (hpos i hi);refine ⟨x,h1,?_⟩;have hl:i<(repL c z.cells).length:=by rw [zcp];exact hi
   rw [Vec.get_ofList _ _ hl];have:=zdS c z.cells i hi;rw [List.getElem?_eq_getElem hl,h2] at this;rw [Option.some.inj this];exact h3
  ·cases h
theorem zgd (he:ER ρ j N env a) {t:TypeId} {xl xc:Operand} {nx:Nat} {v:AV} {ob:Obj} (ho:o.op= .makeSlice t xl xc) (h:zck P t xl xc env nx=some (v,ob)):AS P ρ j w a o nx v ob∧zic nx ob:=by
 unfold zck at h;split at h
 case h_2=>cases h
 rename_i e l c hu hl hc;split at h
 case h_2=>cases h
 rename_i inf z hinf hz;split at h
 case h_2=>cases h
 rename_i hle hby hlt hsz;have hle:=Nat.le_of_ble_eq_true hle;have hby:inf.bytes*c≤140737488355328:=Nat.le_of_ble_eq_true hby;have hlt:c<4611686018427387904:=by rwa [Nat.blt_eq] at hlt
 have hsz:=zaj hsz;split at h
 case h_2=>cases h
 rename_i r hr;cases h;obtain ⟨kl,hl⟩:=zbT he hl;obtain ⟨kc,hc⟩:=zbT he hc;obtain ⟨z',hz1,hz2,_⟩:=zba (ρ:=ρ) (j:=j) hz;obtain ⟨hn,hcells⟩:=zlA hz2 hsz hr;have hsize:szOf P e=some inf.size:=by simp [szOf,hinf]
 have wl:IntKind.i64.wrap (l:Int)=(l:Int):=zdE (by show (-(2^63):Int)≤_;omega) (by show _≤(2^63-1:Int);omega);have wc:IntKind.i64.wrap (c:Int)=(c:Int):=zdE (by show (-(2^63):Int)≤_;omega) (by show _≤(2^63-1:Int);omega);refine ⟨⟨.slice (some ⟨w.heap.size,0,none⟩) l c,.cells ((Array.range (c*inf.size)).map (z'.cells[· %z'.cells.size]!)) e (0,0),?_,?_,_,za4 _ _ _,hle,rfl⟩,rfl⟩
 ·have hby': ¬((inf.bytes:Int)*(c:Int)>2^48):=by
   have:((inf.bytes*c:Nat):Int)≤((140737488355328:Nat):Int):=Int.ofNat_le.2 hby;rw [Int.natCast_mul] at this;omega
  have htest:(decide ((c:Int)<0)||decide ((inf.bytes:Int)*(c:Int)>2^48)||decide ((l:Int)<0)||decide ((l:Int)>(c:Int)))=false:=by
   simp only [hby',decide_false,Bool.or_false];simp;omega
  simp only [execOp,ho,hl,hc,Instr.makeSlice,asInt,asIntOf,Sem.run_bind,run_underlying hu,Result.andThen_ok,Sem.run_pure,typeInfo,run_program,hinf,wl,wc];rw [if_neg (by simpa using htest)];simp only [Sem.run_bind,run_askRoom,Result.andThen_ok,run_sizeOf hsize,Int.toNat_natCast];by_cases h0:c*inf.size=0
  ·have e1:((Array.range (c*inf.size)).map ((#[]:Array Value)[· %(#[]:Array Value).size]!))=((Array.range (c*inf.size)).map (z'.cells[· %z'.cells.size]!)):=by simp [h0]
   rw [if_pos h0];simp only [Sem.run_bind,Sem.run_pure,Result.andThen_ok,e1];rfl
  ·rw [if_neg h0];simp only [Sem.run_bind,Sem.run_pure,Result.andThen_ok,hz1];rfl
 ·refine ⟨rfl,rfl,_,e,rfl,by rw [hn];simp,⟨by simp,fun hh=>by cases hh⟩,fun i hi=> ?_⟩;rw [hn] at hi;exact hcells i hi
theorem zf3 (he:ER ρ j N env a) {nx:Nat} {v:AV} {ob:Obj} (h:zcu P o.op env nx=some (v,ob)):AS P ρ j w a o nx v ob∧zic nx ob:=by
 cases ho:o.op<;>rw [ho] at h<;>simp only [zcu] at h
 case alloc=>exact zlc ho h
 case box=>exact zpa he ho h
 case buildSlice=>exact zfL he ho h
 case makeMap=>exact zhO he ho h
 case makeSlice=>exact zgd he ho h
 all_goals cases h
end
end Go.Dw
namespace Go.Dw
section
variable {P:Program} {ρ:Val} {w0:Cx} {j:J} {H:Heap} {w:World}
theorem Inv.drew (h:Inv ρ w0 j H w):Inv ρ w0 j H w.drew:=
 ⟨⟨h.fr.os,h.fr.out,h.fr.tape,h.fr.size,h.fr.old⟩,h.dom,h.blk,h.used,
  fun n L e=>let ⟨o,h1,h2⟩:=h.obj n L e;⟨o,h1,ObjR.grow (Sub.refl j) (fun _=>rfl) h2⟩,h.sep,h.tim,h.gwt,h.grp,h.fz,h.off0,h.n0,h.nx0,h.z0,h.gho' (Sub.refl j) (Nat.le_refl _) (fun _ _ _=>rfl) (fun _ hb=>Or.inl hb)⟩
theorem Inv.fresh (h:Inv ρ w0 j H w):j H.nx=none:=by
 cases e:j H.nx with
 | none=>rfl
 | some L=>exact absurd (h.dom _ _ e) (Nat.lt_irrefl _)
theorem Inv.closed (h:Inv ρ w0 j H w) {b:Nat} {L:Loc} {v v':Vec} {esz g:Nat} {sh:Bool} (hj:j b=some L) (hm:H.m.get b=some (.cells v esz g none sh true)):
  Inv ρ w0 j ((H.upd b (.cells v esz g (some (H.nx+1)) true true)).alloc (.cells v' esz g none true true)) w∧
  St j H j ((H.upd b (.cells v esz g (some (H.nx+1)) true true)).alloc (.cells v' esz g none true true)):=by
 rw [Heap.upd_eq,Heap.alloc_eq];have hb:=h.dom b L hj;have hal:alive H.gw g (some (H.nx+1))=true:=by
  unfold alive;simp only;cases e:H.gw.get g with
  | none=>rfl
  | some x=>simp only [Nat.blt_eq];have:=h.gwt g x e;omega
 have gb:((H.m.set b (.cells v esz g (some (H.nx+1)) true true)).set H.nx (.cells v' esz g none true true)).get b=some (.cells v esz g (some (H.nx+1)) true true):=by
  rw [T.get_set_ne _ _ (by omega),T.get_set_same]
 have gn:((H.m.set b (.cells v esz g (some (H.nx+1)) true true)).set H.nx (.cells v' esz g none true true)).get H.nx=some (.cells v' esz g none true true):=T.get_set_same _ _ _;have go: ∀k,k≠b→k≠H.nx→((H.m.set b (.cells v esz g (some (H.nx+1)) true true)).set H.nx (.cells v' esz g none true true)).get k=H.m.get k:=fun k h1 h2=>by
  rw [T.get_set_ne _ _ h2,T.get_set_ne _ _ h1]
 have gd: ∀k Lk,j k=some Lk→k≠b→((H.m.set b (.cells v esz g (some (H.nx+1)) true true)).set H.nx (.cells v' esz g none true true)).get k=H.m.get k:=fun k Lk e h1=>
  go k h1 (by have:=h.dom k Lk e;omega)
 refine ⟨⟨h.fr,fun n L e=>Nat.lt_succ_of_lt (h.dom n L e),h.blk,fun k o e=> ?_,fun k Lk e=> ?_,fun k m Lk Lm hkm e1 e2 q1 q2 hbk=> ?_,fun k v2 e g2 t sh2 ow he=> ?_,fun g2 x e=>Nat.le_succ_of_le (h.gwt g2 x e),fun k Lk v2 e2 g2 c sh2 e1 e3=> ?_,h.fz,fun k Lk v2 e2 c sh2 e1 e3=> ?_,h.n0,Nat.succ_pos _,fun o e=> ?_,?_⟩,
  Sub.refl j,(fun k L e e'=>by rw [e] at e';cases e'),fun k _ e hk=>⟨go k (fun hh=>by subst hh;rw [hj] at e;cases e) (by omega),rfl⟩,Nat.le_succ _⟩
 ·show k<H.nx+1;by_cases h1:k=H.nx
  ·omega
  ·by_cases h2:k=b
   ·omega
   ·have e:((H.m.set b (.cells v esz g (some (H.nx+1)) true true)).set H.nx (.cells v' esz g none true true)).get k=some o:=e;rw [go k h2 h1] at e;have:=h.used k o e;omega
 ·by_cases h2:k=b
  ·subst h2;rw [hj] at e;cases e;obtain ⟨o,h3,h4⟩:=h.obj k L hj;rw [hm] at h3;cases h3;exact ⟨_,gb,h4.1,h4.2.1,fun _=>h4.2.2 rfl⟩
  ·obtain ⟨o,h3,h4⟩:=h.obj k Lk e;exact ⟨o,by rw [show _=_ from gd k Lk e h2];exact h3,h4⟩
 ·by_cases hk:k=b
  ·subst hk;rw [hj] at e1;cases e1;obtain ⟨vn,en,gn',cn,sn,on,vm,em,gm,cm,sm,om,h3,h4,h5,h6⟩:=h.sep k m L Lm hkm hj e2 q1 q2 hbk;rw [hm] at h3;cases h3;exact ⟨_,_,_,_,_,_,vm,em,gm,cm,sm,om,gb,by rw [show _=_ from gd m Lm e2 (fun hh=>hkm hh.symm)];exact h4,h5,fun ho=>⟨(h6 ho).1,fun _ _ hc=>by cases hc⟩⟩
  ·by_cases hmb:m=b
   ·subst hmb;rw [hj] at e2;cases e2;obtain ⟨vn,en,gn',cn,sn,on,vm,em,gm,cm,sm,om,h3,h4,h5,h6⟩:=h.sep m k L Lk (fun hh=>hkm hh.symm) hj e1 q2 q1 hbk.symm;rw [hm] at h3;cases h3;refine ⟨vm,em,gm,cm,sm,om,_,_,_,_,_,_,by rw [show _=_ from gd k Lk e1 hk];exact h4,gb,h5.symm,fun ho=> ?_⟩;subst ho;refine ⟨(h6 rfl).1.symm,fun a1 _ hc=> ?_⟩;exact absurd hc ((h6 rfl).2 rfl a1 rfl).2.1
   ·obtain ⟨vn,en,gn',cn,sn,on,vm,em,gm,cm,sm,om,h3,h4,h5⟩:=h.sep k m Lk Lm hkm e1 e2 q1 q2 hbk;exact ⟨vn,en,gn',cn,sn,on,vm,em,gm,cm,sm,om,by rw [show _=_ from gd k Lk e1 hk];exact h3,by rw [show _=_ from gd m Lm e2 hmb];exact h4,h5⟩
 ·show t≤H.nx+1;have he:((H.m.set b (.cells v esz g (some (H.nx+1)) true true)).set H.nx (.cells v' esz g none true true)).get k=some (.cells v2 e g2 (some t) sh2 ow):=he;by_cases h1:k=H.nx
  ·subst h1;rw [gn] at he;cases he
  ·by_cases h2:k=b
   ·subst h2;rw [gb] at he;cases he;exact Nat.le_refl _
   ·rw [go k h2 h1] at he;have:=h.tim k v2 e g2 t sh2 ow he;omega
 ·have e3:((H.m.set b (.cells v esz g (some (H.nx+1)) true true)).set H.nx (.cells v' esz g none true true)).get k=some (.cells v2 e2 g2 c sh2 true):=e3;by_cases h2:k=b
  ·subst h2;rw [gb] at e3;cases e3;exact h.grp k Lk _ _ _ _ _ e1 hm
  ·rw [gd k Lk e1 h2] at e3;exact h.grp k Lk v2 e2 g2 c sh2 e1 e3
 ·by_cases h2:k=b
  ·subst h2;rw [hj] at e1;cases e1;have e3:((H.m.set k (.cells v esz g (some (H.nx+1)) true true)).set H.nx (.cells v' esz g none true true)).get k=some (.cells v2 e2 k c sh2 true):=e3;rw [gb] at e3;cases e3;exact h.off0 _ L _ _ _ _ hj hm
  ·have e3:((H.m.set b (.cells v esz g (some (H.nx+1)) true true)).set H.nx (.cells v' esz g none true true)).get k=some (.cells v2 e2 k c sh2 true):=e3;rw [gd k Lk e1 h2] at e3;exact h.off0 k Lk _ _ _ _ e1 e3
 ·have e:((H.m.set b (.cells v esz g (some (H.nx+1)) true true)).set H.nx (.cells v' esz g none true true)).get 0=some o:=e;rw [go 0 (Ne.symm (h.ne0 hj)) (by have:=h.nx0;omega)] at e;exact h.z0 o e
 ·have e:Heap.gs ⟨(H.m.set b (.cells v esz g (some (H.nx+1)) true true)).set H.nx (.cells v' esz g none true true),H.nx+1,H.gw⟩=H.gs:=by
   unfold Heap.gs;rw [show ((H.m.set b (.cells v esz g (some (H.nx+1)) true true)).set H.nx (.cells v' esz g none true true)).get 0=H.m.get 0 from go 0 (Ne.symm (h.ne0 hj)) (by have:=h.nx0;omega)]
  rw [e];exact h.gho
theorem Inv.over (h:Inv ρ w0 j H w) {b off m' k n:Nat} {L:Loc} {v v':Vec} {esz g:Nat} {sh:Bool} {new:List AV} {vs:List Value} (hj:j b=some L) (hm:H.m.get b=some (.cells v esz g none sh true))
  (hoff:off=k*esz) (hlen:off+m'=v.n) (hk:k≤L.cap) (hcap:off+m'+new.length≤L.cap*esz) (hc:zdz new=true) (hr:RL ρ j new vs) (hn':v'.n=m'+new.length)
  (hold: ∀i,i<m'→v'.get i=v.get (off+i)) (hnew: ∀i (hi:i<new.length),v'.get (m'+i)=new[i]) (P:Program) (hn:n=H.nx):
  ∃ w',(storeCells ⟨L.blk,L.off+off+m',none⟩ vs).run P w= .ok () w'∧
   Inv ρ w0 (jset j n ⟨L.blk,L.off+off,L.cap-k,none⟩) ((H.upd b (.cells v esz g (some (H.nx+1)) true true)).alloc (.cells v' esz g none true true)) w':=by
 subst hn;have hcl:=(h.closed hj hm (v':=v')).1;obtain ⟨o,h1,h2⟩:=h.obj b L hj;rw [hm] at h1;cases h1;obtain ⟨hLq,hbase,hcont⟩:=h2;rw [if_pos rfl] at hbase;obtain ⟨arr,e,fr,hb,hs1,hs2,hcells⟩:=hcont rfl;have hfr:=h.fz _ _ hj hLq hbase _ _ _ hb;subst hfr;have hlenv:=hr.length;have hs3:=hs2.1;have hrun:=run_storeCells_at (P:=P) L.blk (L.off+off+m') e vs 0 arr w hb (by omega) (zi1 hr hc);refine ⟨_,hrun,?_⟩;generalize harr':(arr.toList.take (L.off+off+m'+0)++vs++arr.toList.drop (L.off+off+m'+0+vs.length)).toArray=arr';have hsz:arr'.size=arr.size:=by rw [←harr'];simp;omega
 have hget: ∀i,arr'[i]? =if L.off+off+m'≤i∧i<L.off+off+m'+vs.length then vs[i-(L.off+off+m')]? else arr[i]? :=fun i=>by
  rw [←harr'];simp only [Nat.add_zero,List.getElem?_toArray];by_cases hi:i<L.off+off+m'
  ·rw [if_neg (by omega),List.append_assoc,List.getElem?_append_left (by simp;omega),List.getElem?_take_of_lt hi];simp
  ·by_cases hi2:i<L.off+off+m'+vs.length
   ·rw [if_pos (by omega),List.append_assoc,List.getElem?_append_right (by simp;omega),List.getElem?_append_left (by simp;omega)];congr 1;simp;omega
   ·rw [if_neg (by omega),List.getElem?_append_right (by simp;omega),List.getElem?_drop];simp only [List.length_append,List.length_take,Array.length_toList,Array.getElem?_toList];congr 1;omega
 have hset:=setRow_heap w L.blk arr arr' e (0,0) hb;have hoth: ∀i,i≠L.blk→(w.setRow L.blk arr').heap[i]? =w.heap[i]? :=fun i hi=>setRow_other w L.blk i arr' hi;have hfresh:=h.fresh;have hsub:=zcd (L:=⟨L.blk,L.off+off,L.cap-k,none⟩) hfresh;have hback: ∀q Lq,jset j H.nx ⟨L.blk,L.off+off,L.cap-k,none⟩ q=some Lq→(q=H.nx∧Lq=⟨L.blk,L.off+off,L.cap-k,none⟩)∨(q≠H.nx∧j q=some Lq):=fun q Lq e=>by
  by_cases hq:q=H.nx
  ·subst hq;rw [za4] at e;exact .inl ⟨rfl,(Option.some.inj e).symm⟩
  ·rw [zbJ _ _ hq] at e;exact .inr ⟨hq,e⟩
 have hnewobj:((H.upd b (.cells v esz g (some (H.nx+1)) true true)).alloc (.cells v' esz g none true true)).m.get H.nx=some (.cells v' esz g none true true):=by
  rw [Heap.alloc_eq,Heap.upd_eq];exact T.get_set_same _ _ _
 have hbobj:((H.upd b (.cells v esz g (some (H.nx+1)) true true)).alloc (.cells v' esz g none true true)).m.get b=some (.cells v esz g (some (H.nx+1)) true true):=by
  rw [Heap.alloc_eq,Heap.upd_eq];show ((H.m.set b _).set H.nx _).get b=_;rw [T.get_set_ne _ _ (by have:=h.dom b L hj;omega),T.get_set_same]
 have hoobj: ∀q Lq,j q=some Lq→q≠b→((H.upd b (.cells v esz g (some (H.nx+1)) true true)).alloc (.cells v' esz g none true true)).m.get q=H.m.get q:=fun q Lq eq hq=>by
  rw [Heap.alloc_eq,Heap.upd_eq];show ((H.m.set b _).set H.nx _).get q=_;rw [T.get_set_ne _ _ (by have:=h.dom q Lq eq;omega),T.get_set_ne _ _ hq]
 have hgw:((H.upd b (.cells v esz g (some (H.nx+1)) true true)).alloc (.cells v' esz g none true true)).gw=H.gw:=by rw [Heap.alloc_eq,Heap.upd_eq]
 have hnx:((H.upd b (.cells v esz g (some (H.nx+1)) true true)).alloc (.cells v' esz g none true true)).nx=H.nx+1:=by rw [Heap.alloc_eq,Heap.upd_eq]
 have hsame: ∀m Lm,m≠b→j m=some Lm→Lm.q=none→Lm.blk=L.blk→ ∃vm em cm sm,H.m.get m=some (.cells vm em g cm sm true)∧(alive H.gw g cm=true→cm≠none∧Lm.off+vm.n≤L.off+v.n):=fun m Lm hmb em hq' hbk=>by
  obtain ⟨vn,en,gn',cn,sn,on,vm,em',gm,cm,sm,om,h3,h4,h5,h6⟩:=h.sep b m L Lm (fun hh=>hmb hh.symm) hj em hLq hq' hbk.symm;rw [hm] at h3;cases h3;subst h5;obtain ⟨rfl,h7⟩:=h6 rfl;exact ⟨vm,em',cm,sm,h4,fun ha=>(h7 rfl ha rfl).2⟩
 refine ⟨h.fr.then (by simp) (by simp) rfl (by simp) (fun i _ ho=>hoth i (fun e=>ho (e▸hbase))),fun q Lq e=> ?_,fun q Lq e qq=> ?_,hcl.used,fun q Lq eq=> ?_,fun q m Lq Lm hqm e1 e2 q1 q2 hbk=> ?_,hcl.tim,hcl.gwt,fun q Lq v2 e2 g2 c sh2 e1 e3=> ?_,fun q Lq hjq hqq hi c e' fr he=> ?_,fun q Lq v2 e2 c sh2 e1 e3=> ?_,?_,hcl.nx0,hcl.z0,?_⟩
 ·rcases hback q Lq e with ⟨rfl,_⟩|⟨_,e⟩
  ·rw [hnx];omega
  ·exact hcl.dom q Lq e
 ·rw [setRow_size];rcases hback q Lq e with ⟨_,rfl⟩|⟨_,e⟩
  ·exact h.blk b L hj hLq
  ·exact h.blk q Lq e qq
 ·rcases hback q Lq eq with ⟨rfl,rfl⟩|⟨_,eq⟩
  ·refine ⟨_,hnewobj,rfl,by rw [if_pos rfl];exact hbase,fun _=>⟨arr',e,(0,0),hset,?_,?_,fun i hi=> ?_⟩⟩
   ·show L.off+off+v'.n≤_;rw [hsz,hn'];omega
   ·have hkm:k*esz≤L.cap*esz:=Nat.mul_le_mul_right _ hk;have hs3:=hs2.1;refine ⟨?_,fun _=> ?_⟩
    ·show L.off+off+(L.cap-k)*esz≤_;rw [hsz,hoff,Nat.sub_mul];omega
    ·show v'.n≤(L.cap-k)*esz;rw [hn',Nat.sub_mul];omega
   ·show∃x,arr'[L.off+off+i]? =some x∧R ρ _ (v'.get i) x;rw [hget];by_cases him:i<m'
    ·rw [if_neg (by omega),hold i him];obtain ⟨x,h3,h4⟩:=hcells (off+i) (by omega);exact ⟨x,by rw [←h3];congr 1;omega,h4.mono hsub⟩
    ·rw [if_pos (by omega)];obtain ⟨x,h3,h4⟩:=hr.get (i-m') _ (List.getElem?_eq_getElem (by omega));refine ⟨x,by rw [←h3];congr 1;omega,?_⟩;have:=hnew (i-m') (by omega);rw [show m'+(i-m')=i by omega] at this;rw [this];exact h4.mono hsub
  ·by_cases hqb:q=b
   ·subst hqb;rw [hj] at eq;cases eq;refine ⟨_,hbobj,hLq,by rw [if_pos rfl];exact hbase,fun _=>⟨arr',e,(0,0),hset,by rw [hsz];exact hs1,by rw [hsz];exact hs2,fun i hi=> ?_⟩⟩;rw [hget,if_neg (by omega)];obtain ⟨x,h3,h4⟩:=hcells i hi;exact ⟨x,h3,h4.mono hsub⟩
   ·obtain ⟨o',h3,h4⟩:=h.obj q Lq eq;refine ⟨o',by rw [hoobj q Lq eq hqb];exact h3,?_⟩;rw [hgw];by_cases hqq:Lq.q=none
    case neg=>
     cases o' with
     | opq=>exact h4
     | gs=>exact h4.elim
     | _=>exact absurd h4.1 hqq
    by_cases hbk:Lq.blk=L.blk
    ·obtain ⟨vm,em,cm,sm,h5,h6⟩:=hsame q Lq hqb eq hqq hbk;rw [h3] at h5;cases h5;refine ⟨h4.1,h4.2.1,fun ha=> ?_⟩;obtain ⟨_,hext⟩:=h6 ha;obtain ⟨arr2,e2,fr2,h7,h8,h9,h10⟩:=h4.2.2 ha;rw [hbk,hb] at h7;cases h7;refine ⟨arr',e,(0,0),by rw [hbk];exact hset,by rw [hsz];exact h8,by rw [hsz];exact h9,fun i hi=> ?_⟩;rw [hget,if_neg (by omega)];obtain ⟨x,h11,h12⟩:=h10 i hi;exact ⟨x,h11,h12.mono hsub⟩
    ·exact ObjR.grow hsub (fun _=>hoth _ hbk) h4
 ·rcases hback q Lq e1 with ⟨rfl,rfl⟩|⟨hq,e1⟩<;>rcases hback m Lm e2 with ⟨rfl,rfl⟩|⟨hmm,e2⟩
  ·exact absurd rfl hqm
  ·by_cases hmb:m=b
   ·subst hmb;rw [hj] at e2;cases e2;refine ⟨_,_,_,_,_,_,_,_,_,_,_,_,hnewobj,hbobj,rfl,fun _=>⟨rfl,fun _ _ _=>⟨rfl,by simp,?_⟩⟩⟩;show L.off+v.n≤L.off+off+v'.n;omega
   ·obtain ⟨vm,em,cm,sm,h5,h6⟩:=hsame m Lm hmb e2 q2 hbk.symm;refine ⟨_,_,_,_,_,_,vm,em,g,cm,sm,true,hnewobj,by rw [hoobj m Lm e2 hmb];exact h5,rfl,fun _=>⟨rfl,fun _ ha _=> ?_⟩⟩;rw [hgw] at ha;obtain ⟨h7,h8⟩:=h6 ha;refine ⟨rfl,h7,?_⟩;show Lm.off+vm.n≤L.off+off+v'.n;omega
  ·by_cases hqb:q=b
   ·subst hqb;refine ⟨_,_,_,_,_,_,_,_,_,_,_,_,hbobj,hnewobj,rfl,fun _=>⟨rfl,fun _ _ hc=>by cases hc⟩⟩
   ·obtain ⟨vm,em,cm,sm,h5,h6⟩:=hsame q Lq hqb e1 q1 hbk;refine ⟨vm,em,g,cm,sm,true,_,_,_,_,_,_,by rw [hoobj q Lq e1 hqb];exact h5,hnewobj,rfl,fun _=>⟨rfl,fun ha _ hc=> ?_⟩⟩;rw [hgw] at ha;exact absurd hc (h6 ha).1
  ·exact hcl.sep q m Lq Lm hqm e1 e2 q1 q2 hbk
 ·rcases hback q Lq e1 with ⟨rfl,rfl⟩|⟨_,e1⟩
  ·rw [hnewobj] at e3;cases e3;obtain ⟨Lg,hLg⟩:=h.grp b L v esz g none sh hj hm;exact ⟨Lg,hsub _ _ hLg⟩
  ·obtain ⟨Lg,hLg⟩:=hcl.grp q Lq v2 e2 g2 c sh2 e1 e3;exact ⟨Lg,hsub _ _ hLg⟩
 ·by_cases hi2:Lq.blk=L.blk
  ·rw [hi2] at he;rw [hset] at he;cases he;rfl
  ·rw [hoth _ hi2] at he;rcases hback q Lq hjq with ⟨_,rfl⟩|⟨_,hjq⟩
   ·exact absurd rfl hi2
   ·exact h.fz q Lq hjq hqq hi c e' fr he
 ·rcases hback q Lq e1 with ⟨rfl,rfl⟩|⟨_,e1⟩
  ·rw [hnewobj] at e3;cases e3;obtain ⟨Lg,hLg⟩:=h.grp b L v esz H.nx none sh hj hm;exact absurd (h.dom _ _ hLg) (Nat.lt_irrefl _)
  ·exact hcl.off0 q Lq v2 e2 c sh2 e1 e3
 ·rw [zbJ _ _ (by have:=h.nx0;omega)];exact h.n0
 ·refine hcl.gho' hsub (by simp) (fun x _ hx=>hoth x (fun e=>hx ⟨b,L,hj,hLq,e.symm⟩)) (fun x hx=> ?_);obtain ⟨q,Lq,e,qq,rfl⟩:=hx;rcases hback q Lq e with ⟨_,rfl⟩|⟨_,e⟩
  ·exact Or.inl ⟨b,L,hj,hLq,rfl⟩
  ·exact Or.inl ⟨q,Lq,e,qq,rfl⟩
end
end Go.Dw
end
