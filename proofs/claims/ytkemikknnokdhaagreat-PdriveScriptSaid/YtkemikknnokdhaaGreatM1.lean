/-
  Proved: laws on the way to 'PdriveScriptProof' (texts DwLight DwHeavy DwAppend DwOps DwOps2 DwOps3 DwCall DwPlan); no condition.
-/
import Derived.Test.YtkemikknnokdhaaGreatM0
import Derived.Laws.StructEq
import Derived.Laws.Strings
import Derived.Laws.Append
import Derived.Defers
import Derived.Tactics
import Derived.LoopN
import Derived.Orders
set_option linter.unusedSimpArgs false
set_option linter.unusedVariables false
set_option maxHeartbeats 4000000
noncomputable section
namespace Go.Dw
def DR (ρ:Val) (j:J):AV→List Deferred→Prop
 | v,[]=>v= .aK []
 | v,d::ds=> ∃g args rest cap,v= .aK [.func g [] args,rest]∧d.target= .fn (.func g) cap∧RL ρ j args (d.args++cap).toList∧DR ρ j rest ds
noncomputable def bT (env:T AV) (t:Nat):AV:=match env.get t with|some v=>v|none=>jb
structure ER (ρ:Val) (j:J) (N:Nat) (env:T AV) (a:Act):Prop where
 size:a.tmps.size=N
 le:N≤bN
 get: ∀t,t≠bN→bT env t= .junk∨R ρ j (bT env t) (a.tmps.getD t undef)
 dH:DR ρ j (bT env bN) a.defers
theorem DR.mono {ρ:Val} {j j':J} (h:Sub j j'): ∀ {ds:List Deferred} {v:AV},DR ρ j v ds→DR ρ j' v ds
 | [], _,r=>r
 | _::_,_,r=>let ⟨g,args,rest,cap,e1,e2,e3,e4⟩:=r;⟨g,args,rest,cap,e1,e2,e3.mono h,DR.mono h e4⟩
theorem ER.mono {ρ:Val} {j j':J} {N:Nat} {env:T AV} {a:Act} (h:ER ρ j N env a) (hs:Sub j j'):ER ρ j' N env a:=
 ⟨h.size,h.le,fun t ht=>(h.get t ht).imp_right (·.mono hs),h.dH.mono hs⟩
section
variable {P:Program} {ρ:Val} {w0:Cx} {j:J} {H:Heap} {w:World} {N:Nat} {env:T AV} {a:Act}
theorem bR (he:ER ρ j N env a) {x:Operand} {v:AV} (h:aR env x=some v):R ρ j v (a.eval x):=by
 unfold aR at h;split at h
 ·rename_i t;split at h
  ·rename_i hb;rw [yaD] at hb;have:=he.get t (by omega);unfold bT at this;show R ρ j v (a.tmps.getD t undef);cases hg:env.get t with
   | none=>
    rw [hg] at h this;cases h;exact this.resolve_left (by simp [jb])
   | some v1=>
    rw [hg] at h this;by_cases hv:v1= .junk
    ·subst hv;cases h
    ·have e:v1=v:=by cases v1<;>first|exact yaE h|exact absurd rfl hv
     rw [←e];exact this.resolve_left hv
  ·cases h
 ·exact X4 h
 ·cases h;exact ⟨[],[],rfl,rfl,rfl⟩
 ·cases h
theorem IC (he:ER ρ j N env a): ∀ {xs:List Operand} {vs:List AV},jY env xs=some vs→RL ρ j vs (xs.map a.eval)
 | [], vs,h=>by unfold jY at h;cases h;rfl
 | x::xs,vs,h=>by
  unfold jY at h;split at h
  ·cases h
  ·rename_i v hv;split at h
   ·cases h
   ·rename_i m hm;cases h;exact ⟨_,_,rfl,bR he hv,IC he hm⟩
theorem wS (he:ER ρ j N env a) {x:Operand} {n:Nat} (h:nE env x=some n): ∃k,a.eval x= .int k (n:Int):=by
 unfold nE at h;split at h
 ·rename_i k m hx;cases h;exact ⟨k,bR he hx⟩
 ·cases h
def LS (P:Program) (ρ:Val) (j:J) (w:World) (a:Act) (o:Oper) (v:AV):Prop:= ∃v',(execOp a.eval o).run P w= .ok (.value v') w∧R ρ j v v'
variable {o:Oper} {v:AV}
theorem U6 (he:ER ρ j N env a) {x:Operand} (ho:o.op= .move x∨o.op= .assign x) (h:QO x env H=some v):LS P ρ j w a o v:=by
 refine ⟨a.eval x,?_,bR he h⟩;rcases ho with ho|ho<;>simp only [execOp,ho,yag]
theorem rH (b:SB):(mkNot b).den ρ= !(b.den ρ):=by
 unfold mkNot;split<;>simp [SB.den]
theorem zrD (x y:SB):(QN x y).den ρ=(x.den ρ==y.den ρ):=by
 unfold QN;split<;>simp [SB.den,rH]
theorem xu (x y:SB):(mkAnd x y).den ρ=(x.den ρ&&y.den ρ):=by
 unfold mkAnd;split<;>simp [SB.den]
theorem Z9 {s:SB} {b:Bool} {y:AV} {u:Value} (h:R ρ j y u) (hs:s.den ρ=b):R ρ j (given s b y) u:=by
 unfold given;split
 ·rename_i t;split
  ·rename_i he;have h:u= .bool (t.den ρ):=h;show u= .bool (SB.den ρ (.lit b));rw [h,SB.uf he,hs];rfl
  ·exact h
 ·exact h
theorem zrq (s x y:SB):(QU s x y).den ρ=if s.den ρ=true then x.den ρ else y.den ρ:=by
 unfold QU;split
 ·rename_i h;rw [xu,SB.uf h];cases s.den ρ<;>simp
 ·split
  ·rename_i h;rw [rH,xu,rH,rH,SB.uf h];cases s.den ρ<;>simp
  ·rw [rH,xu,rH,rH,xu,xu,rH];cases s.den ρ<;>simp
theorem zwv {s:SB} {x y v:AV} {u1 u2:Value} (h1:R ρ j x u1) (h2:R ρ j y u2) (h:QV s x y=some v):R ρ j v (if s.den ρ=true then u1 else u2):=by
 unfold QV at h;split at h
 ·rename_i c w;split at h
  case h_2=>cases h
  rename_i hc;cases h;have hs:s.den ρ=false:=by rw [←SB.uf hc];exact h1.2
  rw [yah (by rw [hs];decide)];exact Z9 h2 hs
 ·split at h
  ·rename_i c w;split at h
   case h_2=>cases h
   rename_i hc;cases h;have hs:s.den ρ=true:=by rw [←SB.uf hc];exact h2.2
   rw [yak hs];exact Z9 h1 hs
  ·split at h
   case h_2=>cases h
   cases h;have h1:u1= .bool _:=h1;have h2:u2= .bool _:=h2;show _=Value.bool _;rw [zrq,h1,h2];cases s.den ρ<;>simp
  ·cases h
theorem zm4 (he:ER ρ j N env a) {c x y:Operand} (ho:o.op= .pick c x y) (h:Kz c x y env H=some v):LS P ρ j w a o v:=by
 unfold Kz at h;split at h
 ·rename_i hc;have h1:=bR he hc;refine ⟨a.eval x,?_,bR he h⟩;simp only [R,SB.den] at h1;simp [execOp,ho,h1,asBool]
 ·rename_i hc;have h1:=bR he hc;refine ⟨a.eval y,?_,bR he h⟩;simp only [R,SB.den] at h1;simp [execOp,ho,h1,asBool]
 ·rename_i s _ _ hc;have h1:=bR he hc;split at h
  case h_2=>cases h
  rename_i p q hp hq;have h2:=bR he hp;have h3:=bR he hq;refine ⟨if s.den ρ=true then a.eval x else a.eval y,?_,zwv h2 h3 h⟩;simp only [R] at h1;cases hs:s.den ρ<;>simp [execOp,ho,h1,asBool,hs]
 ·cases h
theorem zrA: ∀(l:List AV) (i:Nat),D6 l i=l[i]?
 | [], i=>by simp [D6]
 | a::l,0=>rfl
 | a::l,i+1=>by show D6 l i=_;rw [zrA l i];simp
theorem zir (he:ER ρ j N env a) {x:Operand} {i:Nat} (ho:o.op= .extract x i) (h:Jg x i env H=some v):LS P ρ j w a o v:=by
 unfold Jg at h;split at h
 ·rename_i l hx;obtain ⟨m,h1,h2⟩:=bR he hx;rw [zrA] at h;obtain ⟨u,h3,h4⟩:=h2.get i v h;refine ⟨u,?_,h4⟩;simp [execOp,ho,h1,Instr.extract,h3]
 ·cases h
theorem zhL (he:ER ρ j N env a) {x:Operand} (ho:o.op= .nilCheck x) (h:IQ x env H=some v):LS P ρ j w a o v:=by
 unfold IQ at h;split at h
 ·cases h
 ·cases h
 ·cases h
 ·cases h
 ·cases h
 ·cases h
 ·cases h
 ·rename_i h1 h2 h3 h4 h5 h6 h7;have hr:=bR he h;refine ⟨a.eval x,?_,hr⟩;simp only [execOp,ho];cases v<;>simp only [R] at hr
  case iI=>exact absurd h h1
  case jX=>exact absurd h h2
  case lH=>exact absurd h h3
  case cst=>exact absurd h (h4 _ _)
  case opq=>exact absurd h (h5 _ _)
  case gH=>exact absurd h (h6 _ _)
  case sx=>exact absurd h (h7 _ _ _ _)
  case str=>obtain ⟨_,e⟩:=hr;rw [e];rfl
  case ptr=>obtain ⟨L,_,e⟩:=hr;rw [e];rfl
  case sl=>obtain ⟨L,_,_,e⟩:=hr;rw [e];rfl
  case emp=>obtain ⟨L,c,e⟩:=hr;rw [e];rfl
  case nM=>obtain ⟨b,l,c,e,_⟩:=hr;rw [e];rfl
  case mg=>obtain ⟨b,l,c,e⟩:=hr;rw [e];rfl
  case map=>obtain ⟨L,_,e⟩:=hr;rw [e];rfl
  case func=>obtain ⟨l,m,e,_,_⟩:=hr;rw [e];rfl
  case iface=>obtain ⟨y,e,_⟩:=hr;rw [e];rfl
  case agg=>obtain ⟨m,e,_⟩:=hr;rw [e];rfl
  case aK=>obtain ⟨m,e,_⟩:=hr;rw [e];rfl
  all_goals rw [hr];rfl
theorem zvz {t:TypeId} {n:Nat} (h:ig P t=some n): ∃i,P.info? t=some i∧i.size=n:=by
 unfold ig at h;split at h
 ·rename_i i hi;cases h;exact ⟨i,hi,rfl⟩
 ·cases h
theorem run_sizeOf {t:TypeId} {n:Nat} (h:ig P t=some n):(sizeOf t).run P w= .ok n w:=by
 obtain ⟨i,h1,h2⟩:=zvz h;simp [sizeOf,typeInfo,h1,h2]
theorem run_underlying {t:TypeId} {d:TypeDesc} (h:P.underlying t=some d):(underlying t).run P w= .ok d w:=by
 simp [underlying,h]
theorem I7 {t:TypeId} {b:Bool} (h:J4 P t=some b):(isAgg t).run P w= .ok b w:=by
 unfold J4 at h;split at h
 ·rename_i hu;cases h;simp [isAgg,run_underlying hu]
 ·rename_i hu;cases h;simp [isAgg,run_underlying hu]
 ·rename_i d h1 h2 hu;cases h;simp only [isAgg,yad,run_underlying hu,yac];cases d<;>first|rfl|(exact absurd hu (h1 _))|(exact absurd hu (h2 _ _))
 ·cases h
theorem zgP (he:ER ρ j N env a) {t:TypeId} {x:Operand} {f:Nat} (ho:o.op= .fieldAddr t x f) (h:IK P t x f env H=some v):LS P ρ j w a o v:=by
 unfold IK at h;split at h
 ·rename_i off n p hf hx;cases h;obtain ⟨L,h1,h2⟩:=bR he hx;unfold Y4 at hf;split at hf
  ·rename_i fd vY;split at hf
   ·rename_i k hs;cases hf;unfold Fg at vY;split at vY
    ·rename_i fs hu;refine ⟨.pointer (some ⟨L.blk,L.off+(p+fd.offset),none⟩),?_,L,h1,rfl⟩;simp only [execOp,ho,h2,Instr.fieldAt,yad,run_underlying hu,yac,vY,Instr.sureAddr,yag,fieldPlace,run_sizeOf hs];simp [addr_add,ybn]
    ·cases vY
   ·cases hf
  ·cases hf
 ·cases h
theorem zly (hi:Inv ρ w0 j H w) {t:TypeId} {n off:Nat} {L:Loc} {r:Vec} {v:AV} (hj:j n=some L) (hr:H.row n=some r) (h:loadAt (O7 P t) r off=some v):
  ∃ v',(loadVar t ⟨L.blk,L.off+off,none⟩).run P w= .ok v' w∧R ρ j v v':=by
 unfold O7 at h;split at h
 ·rename_i s ha hs;unfold loadAt at h;simp only at h;split at h
  ·rename_i hb;cases h;rw [yaD] at hb;obtain ⟨x,h1,h2⟩:=hi.cell hj hr hb;exact ⟨x,by simp [loadVar,I7 ha,h1],h2⟩
  ·cases h
 ·rename_i s ha hs;unfold loadAt at h;simp only at h;split at h
  ·rename_i hb;cases h;have hb:off+s≤r.n:=yam hb;obtain ⟨xs,h1,h2⟩:=hi.loadCells (P:=P) hj hr hb;exact ⟨.agg xs.toArray,by simp [loadVar,I7 ha,run_sizeOf hs,h1],xs,rfl,h2⟩
  ·cases h
 ·simp [loadAt] at h
theorem zm5 (hi:Inv ρ w0 j H w) (he:ER ρ j N env a) {t:TypeId} {x:Operand} (ho:o.op= .load t x) (h:FN P t x env H=some v):LS P ρ j w a o v:=by
 unfold FN at h;split at h
 ·rename_i n off hx;obtain ⟨L,h1,h2⟩:=bR he hx;split at h
  ·rename_i r hr;obtain ⟨v',h3,h4⟩:=zly (P:=P) hi h1 hr h;refine ⟨v',?_,h4⟩;simp only [execOp,ho,h2,Instr.loadAt,yad,Instr.sureAddr,yag,yac,h3]
  ·cases h
 ·cases h
theorem XR (o:BinOp) (x y:SE):(FM o x y).den ρ=mD o (x.den ρ) (y.den ρ):=by
 unfold FM;split
 ·simp [SB.den,SE.den,zxf]
 ·exact ztc o _ _
theorem zpF (k:IntKind) (x:SE):(mkWrap k x).den ρ=k.wrap (x.den ρ):=by
 unfold mkWrap;split
 ·rename_i n;have e:=Jp k n;split<;>simp_all [uT,SE.den]
 ·exact zqx k _
theorem zrW {o:BinOp} {k:IntKind} {x y z:Int} (h:DF o k x y=some z):zJ o=false∧(o= .quo∨o= .rem→y≠0)∧(E9 o=true→0≤y):=by
 cases o<;>simp only [DF] at h<;>try (cases h;done)
 case quo=>refine ⟨rfl,fun _ hy=> ?_,fun hh=>by cases hh⟩;subst hy;simp [nX] at h
 case rem=>refine ⟨rfl,fun _ hy=> ?_,fun hh=>by cases hh⟩;subst hy;simp [nX] at h
 case shl=>
  refine ⟨rfl,fun hh=>by simp at hh,fun _=> ?_⟩;split at h
  ·exact ycO _
  ·cases h
 case shr=>
  refine ⟨rfl,fun hh=>by simp at hh,fun _=> ?_⟩;split at h
  ·exact ycO _
  ·cases h
 all_goals exact ⟨rfl,(fun hh=>by simp at hh),fun hh=>by cases hh⟩
theorem Ju {o:BinOp} {k:IntKind} {x y c:SE} (h:mkInt o k x y=some c):
  c.den ρ=iQ o k (x.den ρ) (y.den ρ)∧zJ o=false∧(o= .quo∨o= .rem→y.den ρ≠0)∧(E9 o=true→0≤y.den ρ):=by
 unfold mkInt at h;split at h
 ·rename_i n m;split at h
  ·rename_i z hz;rw [uT] at h;cases h;exact ⟨(zrX hz).symm,zrW hz⟩
  ·rename_i z hz;rw [uT] at h;cases h;exact ⟨(zrX hz).symm,zrW hz⟩
  ·cases h
 ·rename_i m _;split at h
  all_goals first|(cases h;done)|skip
  case h_8=>
   split at h
   ·cases h
   ·rename_i hq;cases h;refine ⟨wU _ _ _ _,rfl,fun _ hy=> ?_,fun hh=>by cases hh⟩;simp only [SE.den] at hy;rw [hy] at hq;simp [nX] at hq
  case h_9=>
   split at h
   ·cases h
   ·rename_i hq;cases h;refine ⟨wU _ _ _ _,rfl,fun _ hy=> ?_,fun hh=>by cases hh⟩;simp only [SE.den] at hy;rw [hy] at hq;simp [nX] at hq
  case h_10=>
   split at h
   ·cases h;exact ⟨wU _ _ _ _,rfl,(fun hh=>by simp at hh),fun _=>by simp [SE.den]⟩
   ·cases h
  case h_11=>
   split at h
   ·cases h;exact ⟨wU _ _ _ _,rfl,(fun hh=>by simp at hh),fun _=>by simp [SE.den]⟩
   ·cases h
  all_goals (cases h;exact ⟨wU _ _ _ _,rfl,(fun hh=>by simp at hh),fun hh=>by cases hh⟩)
 ·have pos: ∀ {q r:Nat},bnd y=some (q,r)→Nat.blt 0 q=true→y.den ρ≠0:=fun {q r} hb hq hy=>by
   obtain ⟨n,h1,h2,_⟩:=zq (ρ:=ρ) hb;rw [yaD] at hq;rw [hy] at h1;have h1:(0:Int)=(n:Int):=h1;omega
  split at h
  case h_1=>
   split at h
   case h_2=>cases h
   rename_i hb;split at h
   case h_2=>cases h
   rename_i hq;cases h;exact ⟨wU _ _ _ _,rfl,fun _=>pos hb hq,fun hh=>by cases hh⟩
  case h_2=>
   split at h
   case h_2=>cases h
   rename_i hb;split at h
   case h_2=>cases h
   rename_i hq;cases h;exact ⟨wU _ _ _ _,rfl,fun _=>pos hb hq,fun hh=>by cases hh⟩
  all_goals first|(cases h;done)|(cases h;exact ⟨wU _ _ _ _,rfl,(fun hh=>by simp at hh),fun hh=>by cases hh⟩)
theorem UD {o:BinOp} {t:TypeId} {k k':IntKind} {x y:Int} (hk:E9 o=false→k=k') (hc:zJ o=false) (h0:o= .quo∨o= .rem→y≠0) (hs:E9 o=true→0≤y):
  (binOp o t (.int k x) (.int k' y)).run P w= .ok (.int k (iQ o k x y)) w:=by
 cases o<;>simp only [zJ,Bool.true_eq_false] at hc
 case shl=>
  have:=hs rfl;simp only [binOp,Op.shift,yah (show¬y<0 by omega)];rfl
 case shr=>
  have:=hs rfl;simp only [binOp,Op.shift,yah (show¬y<0 by omega)];rfl
 case quo=>obtain rfl:=hk rfl;simp [binOp,Op.intDiv,h0 (.inl rfl),iQ]
 case rem=>obtain rfl:=hk rfl;simp [binOp,Op.intDiv,h0 (.inr rfl),iQ]
 all_goals
  obtain rfl:=hk rfl;simp [binOp,Op.intArith,Op.intBits,iQ,mV]
theorem zjz {o:BinOp} {t:TypeId} {k:IntKind} {x y:Int} (hc:zJ o=true):
  (binOp o t (.int k x) (.int k y)).run P w= .ok (.bool (mD o x y)) w:=by
 cases o<;>simp only [zJ,yaW] at hc<;>simp [binOp,Op.intCmp,mD]
theorem kU {o:BinOp} {t:TypeId} {x y:Operand} {u v:Value} (h1:u= .nilIface→v= .nilIface→(match wJ x with|true=>true|false=>wJ y)=true) (h2: ∀xs ys,u= .agg xs→v= .agg ys→P.eqGuardType P.depth t=false):
  (eqGuard o t x y u v).run P w= .ok () w:=by
 unfold eqGuard;cases o
 case eql=>
  simp only [ydj,yaW,ybW];split
  ·have:=h1 rfl rfl;cases x<;>cases y<;>first|rfl|(simp [wJ] at this)
  ·have:=h2 _ _ rfl rfl;simp [this]
  ·rfl
 case neq=>
  simp only [ydj,yaW,ybW];split
  ·have:=h1 rfl rfl;cases x<;>cases y<;>first|rfl|(simp [wJ] at this)
  ·have:=h2 _ _ rfl rfl;simp [this]
  ·rfl
 all_goals rfl
theorem RL.take: ∀ {n:Nat} {l m:List AV} {vs:List Value},RL ρ j l vs→takeN n l=some m→RL ρ j m (vs.take n)∧n≤vs.length
 | 0,l,m,vs,_,h=>by unfold takeN at h;cases h;exact ⟨rfl,yar _⟩
 | n+1,[],m,vs,_,h=>by unfold takeN at h;cases h
 | n+1,x::l,m,_,r,h=>by
  obtain ⟨v,vs,rfl,r1,r2⟩:=r;unfold takeN at h;split at h
  ·rename_i m' hm;cases h;obtain ⟨h1,h2⟩:=RL.take r2 hm;exact ⟨⟨_,_,by simp,r1,h1⟩,by simp;omega⟩
  ·cases h
theorem RL.drop: ∀ {n:Nat} {l:List AV} {vs:List Value},RL ρ j l vs→RL ρ j (zL n l) (vs.drop n)
 | 0,l,vs,r=>by unfold zL;simpa using r
 | n+1,[],vs,r=>by have e:vs= []:=r;subst e;unfold zL;simpa using r
 | n+1,x::l,_,r=>by
  obtain ⟨v,vs,rfl,r1,r2⟩:=r;unfold zL;simpa using RL.drop r2
theorem Bg {t:TypeId} {cs:List AV} {vs:Array Value} {off:Nat} {x:AV} (h:qz P t cs off=some x) (hr:RL ρ j cs vs.toList):
  ∃ y,(part t vs off).run P w= .ok y w∧R ρ j x y:=by
 unfold qz at h;split at h
 ·rename_i n ha hs;split at h
  ·rename_i l hl;cases h;obtain ⟨h1,h2⟩:=RL.take (hr.drop (n:=off)) hl;refine ⟨.agg (vs.extract off (off+n)),by simp only [part,yad,I7 ha,yac,ycD,run_sizeOf hs,yag],(vs.extract off (off+n)).toList,by rw [ycf],?_⟩;have e:(vs.toList.drop off).take n=(vs.extract off (off+n)).toList:=by
    simp [Array.toList_extract,ycR]
   rw [e] at h1;exact h1
  ·cases h
 ·rename_i ha;split at h
  ·rename_i x' l hl;cases h;have h1:=hr.drop (n:=off);rw [hl] at h1;obtain ⟨v,m,h2,h3,_⟩:=h1;have h4:vs[off]? =some v:=by
    have:(vs.toList.drop off)[0]? =some v:=by rw [h2];rfl
    simpa using this
   exact ⟨v,by simp [part,I7 ha,h4],h3⟩
  ·cases h
 ·cases h
theorem znq (hi:Inv ρ w0 j H w) {n m:Nat} {L M:Loc} (hn:j n=some L) (hm:j m=some M) (h:vK H n m=true):
  L.blk≠M.blk∧(∃a e,w.heap[L.blk]? =some (.cells a e (0,0)))∧(∃a e,w.heap[M.blk]? =some (.cells a e (0,0))):=by
 unfold vK at h;split at h
 case h_2=>cases h
 rename_i v1 e1 g1 c1 s1 v2 e2 g2 c2 s2 h1 h2;split at h
 ·cases h
 ·rename_i hg;split at h
  case h_2=>cases h
  rename_i r1 r2 hr1 hr2;have base: ∀k Lk v e g c s,j k=some Lk→H.m.get k=some (.cells v e g c s true)→w0.own Lk.blk:=fun k Lk v e g c s ek hk=>by
   obtain ⟨o,h3,h4⟩:=hi.obj k Lk ek;rw [hk] at h3;cases h3;have:=h4.2.1;rwa [yak rfl] at this
  refine ⟨fun hb=> ?_,?_,?_⟩
  ·have hne:n≠m:=fun e=>by subst e;rw [h1] at h2;cases h2;rw [yb7] at hg;cases hg
   obtain ⟨_,_,_,_,_,_,_,_,_,_,_,_,h3,h4,h5,h6⟩:=hi.sep n m L M hne hn hm (hi.nI hn h1) (hi.nI hm h2) hb;rw [h1] at h3;rw [h2] at h4;cases h3;cases h4;have:=(h6 rfl).1;subst this;rw [yb7] at hg;cases hg
  ·obtain ⟨arr,e,fr,h3,_⟩:=hi.row hn hr1;have:=hi.fz _ _ hn (hi.nI hn h1) (base n L _ _ _ _ _ hn h1) _ _ _ h3;subst this;exact ⟨arr,e,h3⟩
  ·obtain ⟨arr,e,fr,h3,_⟩:=hi.row hm hr2;have:=hi.fz _ _ hm (hi.nI hm h2) (base m M _ _ _ _ _ hm h2) _ _ _ h3;subst this;exact ⟨arr,e,h3⟩
theorem zfh {p q:Addr} (h:p.block≠q.block) {a1 a2:Array Value} {e1 e2:TypeId} (h1:w.heap[p.block]? =some (.cells a1 e1 (0,0))) (h2:w.heap[q.block]? =some (.cells a2 e2 (0,0))):
  (sameAddr p q).run P w= .ok false w:=by
 have hb:(p.block==q.block)=false:=by simpa using h
 have f1: ∀i,w.frozen? ⟨p.block,i,none⟩=false:=fun i=>by simp [World.frozen?,h1]
 have f2: ∀i,w.frozen? ⟨q.block,i,none⟩=false:=fun i=>by simp [World.frozen?,h2]
 have f1':w.frozen? p=false:=by simp [World.frozen?,h1]
 have f2':w.frozen? q=false:=by simp [World.frozen?,h2]
 have s1:w.shape? p.block=some (e1,a1.size):=by simp [World.shape?,h1]
 have s2:w.shape? q.block=some (e2,a2.size):=by simp [World.shape?,h2]
 simp [sameAddr,hb,f1',f2',noView,viewAt,s1,s2,mayBeOne,stringish,f1,f2]
theorem zqe {a b:List Nat} (ha: ∀x∈a,x<256) (hb: ∀x∈b,x<256) (h:a.map UInt8.ofNat=b.map UInt8.ofNat):a=b:=by
 have key: ∀l:List Nat,(∀x∈l,x<256)→(l.map UInt8.ofNat).map (·.toNat)=l:=fun l hl=>by
  rw [List.map_map]
  conv=>rhs;rw [←List.map_id l]
  apply List.map_congr_left;intro x hx;simp only [Function.comp,UInt8.toNat_ofNat',id];have:=hl x hx;omega
 rw [←key a ha,h,key b hb]
theorem bytes_beq {a b:List Nat} (ha: ∀x∈a,x<256) (hb: ∀x∈b,x<256):
  ((⟨(a.map UInt8.ofNat).toArray⟩:ByteArray)==⟨(b.map UInt8.ofNat).toArray⟩)=lS a b:=by
 show ((a.map UInt8.ofNat).toArray==(b.map UInt8.ofNat).toArray)=_;rw [zmT,ybS];simp only [ycC,yaL];constructor
 ·intro h;exact zqe ha hb (by simpa using yaB Array.toList h)
 ·rintro rfl;rfl
def KJ (P:Program) (ρ:Val) (j:J) (w:World) (d:Nat) (t:TypeId) (x y:AV) (b:SB):Prop:=
 ∀ u v,R ρ j x u→R ρ j y v→(Op.equalIn d t u v).run P w= .ok (b.den ρ) w
def fieldStep (d:Nat) (us vs:Array Value) (f:Field) (_:Option Bool×Unit):Sem (ForInStep (Option Bool×Unit)):=
  if f.name ≠ "_" then do
    let x←part f.type us f.offset
    let y←part f.type vs f.offset
    let r←Op.equalIn d f.type x y
    if (!r)=true then pure (ForInStep.done (some false,())) else pure (ForInStep.yield (none,()))
  else pure (ForInStep.yield (none,()))
theorem Nu {eq:TypeId→AV→AV→Option SB} {d:Nat} (heq: ∀t x y b,eq t x y=some b→KJ P ρ j w d t x y b) {us vs:Array Value} {xs ys:List AV} (hx:RL ρ j xs us.toList) (hy:RL ρ j ys vs.toList):
    ∀ (fs:List Field) (b:SB),eqFields P eq fs xs ys=some b→
      (forIn fs ((none,()):Option Bool×Unit) (fieldStep d us vs)).run P w= .ok (if b.den ρ=true then (none,()) else (some false,())) w
  | [], b,h=>by unfold eqFields at h;cases h;simp [SB.den]
  | f::fs,b,h=>by
    unfold eqFields at h;rw [ydI];simp only [yad];by_cases hn : f.name = "_"
    · rw [yak hn] at h;have ih:=Nu heq hx hy fs b h;simp only [fieldStep,hn,ne_eq,not_true_eq_false,ybW,yag,yac];exact ih
    · rw [yah hn] at h;split at h
      case h_2=>cases h
      rename_i x y h1 h2;obtain ⟨u,h3,h4⟩:=Bg (P:=P) (w:=w) h1 hx;obtain ⟨v,h5,h6⟩:=Bg (P:=P) (w:=w) h2 hy;split at h
      · cases h
      · rename_i c hc;split at h
        case h_2=>cases h
        rename_i d' hd;cases h;have ih:=Nu heq hx hy fs d' hd;have e:=heq _ _ _ _ hc u v h4 h6;simp only [fieldStep,hn,ne_eq,not_false_eq_true,ycD,yad,h3,h5,e,yac,xu];cases hcd:c.den ρ
        · simp
        · simp only [ydj,yaW,ybW,yag,yac,ybr];exact ih
def Y8 (d:Nat) (e:TypeId) (n:Nat) (us vs:Array Value) (i:Nat) (_:Option Bool×Unit):Sem (ForInStep (Option Bool×Unit)):=do
 let x←part e us (i*n)
 let y←part e vs (i*n)
 let r←Op.equalIn d e x y
 if (!r)=true then pure (ForInStep.done (some false,())) else pure (ForInStep.yield (none,()))
theorem Uy {eq:AV→AV→Option SB} {d s:Nat} {e:TypeId} (heq: ∀x y b,eq x y=some b→KJ P ρ j w d e x y b) {us vs:Array Value} {xs ys:List AV} (hx:RL ρ j xs us.toList) (hy:RL ρ j ys vs.toList):
  ∀ (n i:Nat) (b:SB),vg P eq e s n i xs ys=some b→
   (forIn (List.range' i n) ((none,()):Option Bool×Unit) (Y8 d e s us vs)).run P w= .ok (if b.den ρ=true then (none,()) else (some false,())) w
 | 0,i,b,h=>by unfold vg at h;cases h;simp [SB.den]
 | n+1,i,b,h=>by
  unfold vg at h;rw [List.range'_succ,ydI];simp only [yad];split at h
  case h_2=>cases h
  rename_i x y h1 h2;obtain ⟨u,h3,h4⟩:=Bg (P:=P) (w:=w) h1 hx;obtain ⟨v,h5,h6⟩:=Bg (P:=P) (w:=w) h2 hy;split at h
  ·cases h
  ·rename_i c hc;split at h
   case h_2=>cases h
   rename_i d' hd;cases h;have ih:=Uy heq hx hy n (i+1) d' hd;have e:=heq _ _ _ hc u v h4 h6;simp only [Y8,yad,h3,h5,e,yac,xu];cases hcd:c.den ρ
   ·simp
   ·simp only [ydj,yaW,ybW,yag,yac,ybr];exact ih
theorem OE (hi:Inv ρ w0 j H w): ∀(f d:Nat) (t:TypeId) (x y:AV) (b:SB),f≤d→iF P H f t x y=some b→KJ P ρ j w d t x y b
 | 0,d,t,x,y,b,_,h=>by unfold iF at h;cases h
 | f+1,0,t,x,y,b,hd,h=>by omega
 | f+1,d+1,t,x,y,b,hd,h=>by
  intro u v hu hv;have ih:=fun t x y b (h:iF P H f t x y=some b)=>OE hi f d t x y b (by omega) h;unfold iF at h;unfold Op.equalIn;split at h
  ·rename_i ht;simp only [yad,run_underlying ht,yac];split at h
   case h_2=>cases h
   cases h;simp only [R] at hu hv;subst hu hv;simp [zrD]
  ·rename_i k ht;simp only [yad,run_underlying ht,yac];split at h
   case h_2=>cases h
   split at h
   case h_2=>cases h
   rename_i hk;have:=Qp hk;subst this;cases h;simp only [R] at hu hv;subst hu hv;simp [XR,mD]
  ·rename_i ht;simp only [yad,run_underlying ht,yac];split at h
   case h_2=>cases h
   cases h;simp only [R] at hu hv;obtain ⟨h1,rfl⟩:=hu;obtain ⟨h2,rfl⟩:=hv;simp [bytes_beq h1 h2,SB.den]
  ·rename_i e ht;simp only [yad,run_underlying ht,yac];split at h
   ·cases h;simp only [R] at hu hv;subst hu hv;rfl
   ·cases h;simp only [R] at hu hv;subst hu;obtain ⟨L,_,rfl⟩:=hv;rfl
   ·cases h;simp only [R] at hu hv;subst hv;obtain ⟨L,_,rfl⟩:=hu;rfl
   ·rename_i n p m q;obtain ⟨L,hL,rfl⟩:=hu;obtain ⟨M,hM,rfl⟩:=hv;split at h
    case h_2=>cases h
    rename_i k hs;simp only [yad,run_sizeOf hs,yac,Nat.succ_ne_zero,ne_eq,not_false_eq_true,ycD];split at h
    ·rename_i hnm;have:=aY hnm;subst this;rw [hL] at hM;cases hM;cases h;have e2:((⟨L.blk,L.off+p,none⟩:Addr)==⟨L.blk,L.off+q,none⟩)=Nat.beq p q:=by
      rw [ybS];simp [Nat.beq_eq]
     simp [sameAddr,e2,SB.den]
    ·split at h
     case h_2=>cases h
     rename_i hap;cases h;obtain ⟨h1,⟨a1,e1,h2⟩,⟨a2,e2,h3⟩⟩:=znq hi hL hM hap;exact zfh h1 h2 h3
   ·cases h
  ·rename_i e ht;simp only [yad,run_underlying ht,yac];split at h
   ·cases h;simp only [R] at hu hv;subst hu hv;rfl
   ·cases h;simp only [R] at hu hv;subst hu;obtain ⟨L,_,_,rfl⟩:=hv;rfl
   ·cases h;simp only [R] at hu hv;subst hu;obtain ⟨L,c,rfl⟩:=hv;rfl
   ·cases h;simp only [R] at hu hv;subst hv;obtain ⟨L,_,_,rfl⟩:=hu;rfl
   ·cases h;simp only [R] at hu hv;subst hv;obtain ⟨L,c,rfl⟩:=hu;rfl
   ·cases h;simp only [R] at hu hv;subst hu;obtain ⟨L,l,c,rfl⟩:=hv;rfl
   ·cases h;simp only [R] at hu hv;subst hv;obtain ⟨L,l,c,rfl⟩:=hu;rfl
   ·cases h
  ·rename_i e1 e2 ht;simp only [yad,run_underlying ht,yac];split at h
   ·cases h;simp only [R] at hu hv;subst hu hv;rfl
   ·cases h;simp only [R] at hu hv;subst hu;obtain ⟨L,_,rfl⟩:=hv;rfl
   ·cases h;simp only [R] at hu hv;subst hv;obtain ⟨L,_,rfl⟩:=hu;rfl
   ·cases h
  ·rename_i e1 e2 e3 ht;simp only [yad,run_underlying ht,yac];split at h
   ·cases h;simp only [R] at hu hv;subst hu hv;rfl
   ·cases h;simp only [R] at hu hv;subst hu;obtain ⟨l,m,rfl,_,_⟩:=hv;rfl
   ·cases h;simp only [R] at hu hv;subst hv;obtain ⟨l,m,rfl,_,_⟩:=hu;rfl
   ·cases h
  ·rename_i ms ht;simp only [yad,run_underlying ht,yac];split at h
   ·cases h;simp only [R] at hu hv;subst hu hv;rfl
   ·cases h;simp only [R] at hu hv;subst hu;obtain ⟨l,rfl,_⟩:=hv;rfl
   ·cases h;simp only [R] at hu hv;subst hv;obtain ⟨l,rfl,_⟩:=hu;rfl
   ·cases h
  ·rename_i fs ht;split at h
   case h_2=>cases h
   split at h
   ·cases h
   ·rename_i hst;obtain ⟨us,rfl,h1⟩:=hu;obtain ⟨vs,rfl,h2⟩:=hv;have hloop:=Nu (d:=d) (fun t x y b h=>ih t x y b h) (us:=us.toArray) (vs:=vs.toArray) (by simpa using h1) (by simpa using h2) fs.toList b h;rw [Array.forIn_toList] at hloop;simp only [yad,run_underlying ht,yac,ycx,hst,yaW,ybW];refine ydf (yaB (fun r=>Result.andThen r _) hloop) ?_;cases b.den ρ<;>rfl
  ·rename_i len e ht;split at h
   case h_2=>cases h
   split at h
   case h_2=>cases h
   rename_i s hs;obtain ⟨us,rfl,h1⟩:=hu;obtain ⟨vs,rfl,h2⟩:=hv;have hloop:=Uy (d:=d) (fun x y b h=>ih e x y b h) (us:=us.toArray) (vs:=vs.toArray) (by simpa using h1) (by simpa using h2) len 0 b h;simp only [yad,run_underlying ht,yac,run_sizeOf hs];rw [Std.Legacy.Range.forIn_eq_forIn_range'];refine ydf (yaB (fun r=>Result.andThen r _) (ydf ?_ hloop)) ?_
   ·simp only [Std.Legacy.Range.size,ycK,Nat.add_sub_cancel,Nat.div_one];rfl
   ·cases b.den ρ<;>rfl
  ·cases h
def strOf (p:List Nat):ByteArray:=⟨(p.map UInt8.ofNat).toArray⟩
theorem Wd (p:List Nat):(strOf p).size=p.length:=by simp [strOf,ByteArray.size]
theorem zky (p q:List Nat):strOf p++strOf q=strOf (p++q):=by
 apply ydi;rw [ycv];simp [strOf]
theorem zl9 {op:BinOp} {t:TypeId} {k k':IntKind} {p q:SE} {r:AV} (h:Qx op k k' p q=some r):
  ∃ v',(binOp op t (.int k (p.den ρ)) (.int k' (q.den ρ))).run P w= .ok v' w∧R ρ j r v':=by
 unfold Qx at h;split at h
 ·rename_i hs;split at h
  ·rename_i c hc;cases h;obtain ⟨e1,e2,e3,e4⟩:=Ju (ρ:=ρ) hc;exact ⟨.int k (c.den ρ),by rw [UD (by rw [hs];simp) e2 e3 e4,e1],rfl⟩
  ·cases h
 ·split at h
  ·rename_i hk;obtain rfl:=Qp hk;split at h
   ·rename_i hc;cases h;exact ⟨.bool ((FM op p q).den ρ),by rw [zjz hc,XR],rfl⟩
   ·split at h
    ·rename_i c hc;cases h;obtain ⟨e1,e2,e3,e4⟩:=Ju (ρ:=ρ) hc;exact ⟨.int k (c.den ρ),by rw [UD (fun _=>rfl) e2 e3 e4,e1],rfl⟩
    ·cases h
  ·cases h
theorem zl8 {op:BinOp} {t:TypeId} {p q:List Nat} {r:AV} (h:Qw op p q=some r) (g1: ∀b∈p,b<256) (g2: ∀b∈q,b<256):
  ∃ v',(binOp op t (.string (strOf p)) (.string (strOf q))).run P w= .ok v' w∧R ρ j r v':=by
 have heq:((strOf p).toList==(strOf q).toList)=lS p q:=by rw [←beq_toListBytes];exact bytes_beq g1 g2
 unfold Qw at h;split at h
 ·cases h;exact ⟨.bool (lS p q),by simp only [binOp,Op.stringOp,heq,yag],rfl⟩
 ·cases h;refine ⟨.bool (!(lS p q)),by simp only [binOp,Op.stringOp,heq,yag],by cases lS p q<;>rfl⟩
 ·split at h
  ·rename_i hb;cases h;rw [yaD] at hb;have hb:p.length+q.length<4611686018427387904:=hb;refine ⟨.string (strOf p++strOf q),?_,fun b hb=> ?_,by rw [zky];rfl⟩
   ·simp only [binOp,Op.stringOp];rw [yah,yag];simp only [Wd,IntKind.max,IntKind.signed,IntKind.bits];simp;omega
   ·rcases ya2.1 hb with hb|hb
    ·exact g1 b hb
    ·exact g2 b hb
  ·cases h
 ·cases h
theorem mq (hi:Inv ρ w0 j H w) {op:BinOp} {t:TypeId} {a1 a2 r:AV} {u1 u2:Value} (h:jr P H op t a1 a2=some r) (h1:R ρ j a1 u1) (h2:R ρ j a2 u2)
  (he:binOp .eql t u1 u2=(do pure (.bool (←Op.equal t u1 u2)))) (hn:binOp .neq t u1 u2=(do pure (.bool (!(←Op.equal t u1 u2))))):
  ∃ v',(binOp op t u1 u2).run P w= .ok v' w∧R ρ j r v':=by
 unfold jr at h;split at h
 ·split at h
  ·rename_i b hb;cases h;have:=OE hi 8 Op.maxDepth t a1 a2 b (by decide) hb u1 u2 h1 h2;refine ⟨.bool (b.den ρ),?_,rfl⟩;rw [he];simp only [yad,Op.equal,this,yac,yag]
  ·cases h
 ·split at h
  ·rename_i b hb;cases h;have:=OE hi 8 Op.maxDepth t a1 a2 b (by decide) hb u1 u2 h1 h2;refine ⟨.bool (!(b.den ρ)),?_,by rw [←rH];rfl⟩;rw [hn];simp only [yad,Op.equal,this,yac,yag]
  ·cases h
 ·cases h
theorem zw1 (P:Program) (H:Heap) (n:Nat) (t:TypeId) (i:Nat) (l:Option SE) (y:AV):iF P H n t (.cst i l) y=none:=by
 cases n with
 | zero=>rfl
 | succ n=>
  unfold iF;cases P.underlying t with
  | none=>rfl
  | some d=>cases d<;>rfl
theorem zwZ (P:Program) (H:Heap) (n:Nat) (t:TypeId) (i:Nat) (l:Option SE) (y:AV):iF P H n t (.opq i l) y=none:=by
 cases n with
 | zero=>rfl
 | succ n=>
  unfold iF;cases P.underlying t with
  | none=>rfl
  | some d=>cases d<;>rfl
theorem zsJ (P:Program) (H:Heap) (o:BinOp) (t:TypeId) (i:Nat) (l:Option SE) (y:AV):jr P H o t (.cst i l) y=none:=by
 unfold jr;cases o<;>simp only [zw1]
theorem zsH (P:Program) (H:Heap) (o:BinOp) (t:TypeId) (i:Nat) (l:Option SE) (y:AV):jr P H o t (.opq i l) y=none:=by
 unfold jr;cases o<;>simp only [zwZ]
theorem zw0 (P:Program) (H:Heap) (n:Nat) (t:TypeId) (i:SB) (l:Bool) (y:AV):iF P H n t (.gH i l) y=none:=by
 cases n with
 | zero=>rfl
 | succ n=>
  unfold iF;cases P.underlying t with
  | none=>rfl
  | some d=>cases d<;>rfl
theorem zx9 (P:Program) (H:Heap) (n:Nat) (t:TypeId) (i:Nat) (e:SE) (sz:Nat) (l:List (SE×Nat)) (y:AV):iF P H n t (.sx i e sz l) y=none:=by
 cases n with
 | zero=>rfl
 | succ n=>
  unfold iF;cases P.underlying t with
  | none=>rfl
  | some d=>cases d<;>rfl
theorem zuU (P:Program) (H:Heap) (o:BinOp) (t:TypeId) (i:Nat) (e:SE) (sz:Nat) (l:List (SE×Nat)) (y:AV):jr P H o t (.sx i e sz l) y=none:=by
 unfold jr;cases o<;>simp only [zx9]
theorem zsI (P:Program) (H:Heap) (o:BinOp) (t:TypeId) (i:SB) (l:Bool) (y:AV):jr P H o t (.gH i l) y=none:=by
 unfold jr;cases o<;>simp only [zw0]
theorem zp6 (hi:Inv ρ w0 j H w) {op:BinOp} {t:TypeId} {x y:Operand} {a1 a2 r:AV} {u1 u2:Value} (h:vM P H (match wJ x with|true=>true|false=>wJ y) op t a1 a2=some r) (h1:R ρ j a1 u1) (h2:R ρ j a2 u2):
  ∃ v',(do eqGuard op t x y u1 u2;binOp op t u1 u2:Sem Value).run P w= .ok v' w∧R ρ j r v':=by
 have glue:(eqGuard op t x y u1 u2).run P w= .ok () w→(∃v',(binOp op t u1 u2).run P w= .ok v' w∧R ρ j r v')→
   ∃ v',(do eqGuard op t x y u1 u2;binOp op t u1 u2:Sem Value).run P w= .ok v' w∧R ρ j r v':=fun hg ⟨v',e,hr⟩=>
  ⟨v',by simp only [yad,hg,yac,e],hr⟩
 cases a1<;>simp only [vM] at h
 case junk=>exact h1.elim
 case int k p=>
  split at h
  ·simp only [R] at h1 h2;subst h1 h2;exact glue (kU (by simp) (by simp)) (zl9 h)
  ·cases h
 case str p=>
  split at h
  ·obtain ⟨g1,rfl⟩:=h1;obtain ⟨g2,rfl⟩:=h2;exact glue (kU (by simp) (by simp)) (zl8 h g1 g2)
  ·cases h
 case jX=>
  split at h
  ·rename_i hc;have h1':=h1;simp only [R] at h1';subst h1';exact glue (kU (fun _ _=>hc) (by simp)) (mq hi h h1 h2 rfl rfl)
  ·cases h
 case agg l=>
  split at h
  ·cases h
  ·rename_i hgt;have h1':=h1;obtain ⟨m,rfl,_⟩:=h1';exact glue (kU (by simp) (fun _ _ _ _=>hgt)) (mq hi h h1 h2 rfl rfl)
 case bool=>have h1':=h1;simp only [R] at h1';subst h1';exact glue (kU (by simp) (by simp)) (mq hi h h1 h2 rfl rfl)
 case iI=>have h1':=h1;simp only [R] at h1';subst h1';exact glue (kU (by simp) (by simp)) (mq hi h h1 h2 rfl rfl)
 case ptr=>have h1':=h1;obtain ⟨_,_,rfl⟩:=h1';exact glue (kU (by simp) (by simp)) (mq hi h h1 h2 rfl rfl)
 case dz=>have h1':=h1;simp only [R] at h1';subst h1';exact glue (kU (by simp) (by simp)) (mq hi h h1 h2 rfl rfl)
 case sl=>have h1':=h1;obtain ⟨_,_,_,rfl⟩:=h1';exact glue (kU (by simp) (by simp)) (mq hi h h1 h2 rfl rfl)
 case emp=>have h1':=h1;obtain ⟨_,_,rfl⟩:=h1';exact glue (kU (by simp) (by simp)) (mq hi h h1 h2 rfl rfl)
 case nM=>have h1':=h1;obtain ⟨_,_,_,rfl,_⟩:=h1';exact glue (kU (by simp) (by simp)) (mq hi h h1 h2 rfl rfl)
 case mg=>have h1':=h1;obtain ⟨_,_,_,rfl⟩:=h1';exact glue (kU (by simp) (by simp)) (mq hi h h1 h2 rfl rfl)
 case kM=>have h1':=h1;simp only [R] at h1';subst h1';exact glue (kU (by simp) (by simp)) (mq hi h h1 h2 rfl rfl)
 case map=>have h1':=h1;obtain ⟨_,_,rfl⟩:=h1';exact glue (kU (by simp) (by simp)) (mq hi h h1 h2 rfl rfl)
 case func=>have h1':=h1;obtain ⟨_,_,rfl,_⟩:=h1';exact glue (kU (by simp) (by simp)) (mq hi h h1 h2 rfl rfl)
 case lH=>have h1':=h1;simp only [R] at h1';subst h1';exact glue (kU (by simp) (by simp)) (mq hi h h1 h2 rfl rfl)
 case iface=>have h1':=h1;obtain ⟨_,rfl,_⟩:=h1';exact glue (kU (by simp) (by simp)) (mq hi h h1 h2 rfl rfl)
 case aK=>have h1':=h1;obtain ⟨_,rfl,_⟩:=h1';exact glue (kU (by simp) (by simp)) (mq hi h h1 h2 rfl rfl)
 case cst i l=>exact absurd h (by rw [zsJ];simp)
 case opq i l=>exact absurd h (by rw [zsH];simp)
 case gH i l=>exact absurd h (by rw [zsI];simp)
 case sx=>exact absurd h (by rw [zuU];simp)
theorem zlE (hi:Inv ρ w0 j H w) (he:ER ρ j N env a) {op:BinOp} {t t':TypeId} {x y:Operand} (ho:o.op= .binOp op t x y t') (h:Fw P op t x y t' env H=some v):LS P ρ j w a o v:=by
 unfold Fw at h;split at h
 ·rename_i a1 a2 hx hy;obtain ⟨v',h1,h2⟩:=zp6 hi (x:=x) (y:=y) h (bR he hx) (bR he hy);refine ⟨v',?_,h2⟩;simp only [execOp,ho];rw [yad,h1];rfl
 ·cases h
theorem zm3 (he:ER ρ j N env a) {op:UnOp} {t:TypeId} {x:Operand} (ho:o.op= .unOp op t x) (h:Ky op t x env H=some v):LS P ρ j w a o v:=by
 unfold Ky at h;split at h
 case h_2=>cases h
 rename_i u hx;have h1:=bR he hx;unfold Uf at h;split at h
 ·rename_i b;cases h;simp only [R] at h1;exact ⟨.bool (!(SB.den ρ b)),by simp only [execOp,ho,h1,yad,Op.unary,yag,yac],by rw [←rH];rfl⟩
 ·split at h
  ·rename_i c hc;cases h;simp only [R] at h1;obtain ⟨e1,_⟩:=Ju (ρ:=ρ) hc;refine ⟨.int _ (c.den ρ),?_,rfl⟩;rw [e1];simp [execOp,ho,h1,Op.unary,Op.intArith,iQ,SE.den]
  ·cases h
 ·split at h
  ·rename_i c hc;cases h;simp only [R] at h1;obtain ⟨e1,_⟩:=Ju (ρ:=ρ) hc;refine ⟨.int _ (c.den ρ),?_,rfl⟩;rw [e1];simp only [execOp,ho,h1,yad,Op.unary,Op.intBits,iQ,mV,SE.den,yag,yac];rw [BitVec.xor_comm]
  ·cases h
 ·cases h
theorem run_sliceBound {x:Operand} (he:ER ρ j N env a) {n y:Nat} (h:nE env x=some n) (hn:n≤y) (c:BoundsCode):(Instr.sliceBound (a.eval x) y c).run P w= .ok n w:=by
 obtain ⟨k,hk⟩:=wS he h;simp only [Instr.sliceBound,hk,asIntOf,yad,yag,yac];rw [yak (by omega)];simp
theorem Br (he:ER ρ j N env a) {len cap l h m:Nat} {lo hi mx:Option Operand} (hb:bounds env len cap lo hi mx=some (l,h,m)):
  l≤h∧h≤m∧m≤cap∧(mx=none→m=cap)∧ ∀(AB:Bool) (cap':Nat),cap≤cap'→
   (Instr.sliceBounds AB len cap' (lo.map a.eval) (hi.map a.eval) (mx.map a.eval)).run P w= .ok (l,h,if mx.isSome then m else cap') w:=by
 unfold bounds at hb;split at hb
 ·rename_i mo;split at hb
  ·cases hb
  ·rename_i m1 hm1;split at hb
   ·cases hb
   ·rename_i hmc;have hmc:=yam hmc;split at hb
    ·cases hb
    ·rename_i ho;split at hb
     ·cases hb
     ·rename_i h1 uD;split at hb
      ·cases hb
      ·rename_i hhm;have hhm:=yam hhm;split at hb
       ·cases hb
       ·rename_i l1 hl1;split at hb
        ·rename_i hlh;have hlh:=yam hlh;cases hb;refine ⟨hlh,hhm,hmc,(fun hh=>by cases hh),fun AB cap' hc=> ?_⟩;simp only [Instr.sliceBounds,yaJ,yad,run_sliceBound he hm1 (yas hmc hc) _,yac,run_sliceBound he uD hhm _,Option.isSome_some,ycD,yag];cases lo with
         | none=>simp only [oI] at hl1;cases hl1;rfl
         | some x=>simp only [yaJ,yad,run_sliceBound he hl1 hlh,yac,yag]
        ·cases hb
 ·split at hb
  ·cases hb
  ·rename_i h1 uD;split at hb
   ·cases hb
   ·rename_i Gq;have Gq:=yam Gq;split at hb
    ·cases hb
    ·rename_i l1 hl1;split at hb
     ·rename_i hlh;have hlh:=yam hlh;cases hb;refine ⟨hlh,Gq,yaa _,fun _=>rfl,fun AB cap' hc=> ?_⟩;have low:(match lo.map a.eval with
        | some v=>do let l←Instr.sliceBound v h .sliceB;pure (l,h,cap')
        | none=>do let l←pure 0;pure (l,h,cap'):Sem (Nat×Nat×Nat)).run P w= .ok (l,h,cap') w:=by
       cases lo with
       | none=>simp only [oI] at hl1;cases hl1;rfl
       | some x=>simp only [yaJ,yad,run_sliceBound he hl1 hlh,yac,yag]
      simp only [Instr.sliceBounds,ybs,yad,yag,yac,ycl,yaW,ybW];cases hi with
      | none=>
       simp only [oI] at uD;cases uD;simp only [ybs,yad,yag,yac];exact low
      | some x=>
       simp only [yaJ,yad,run_sliceBound he uD (yas Gq hc),yac];exact low
     ·cases hb
theorem BB {t:TypeId} {s:Nat} (h:xG P t=some s): ∃e,P.underlying t=some (.slice e)∧ig P e=some s:=by
 unfold xG at h;split at h
 ·rename_i e hu;exact ⟨e,hu,h⟩
 ·cases h
theorem EP {t e:TypeId} {len s:Nat} (h:Ci P t=some (len,e,s)):P.underlying t=some (.array len e)∧ig P e=some s:=by
 unfold Ci at h;split at h
 ·rename_i len' e' hu;split at h
  ·rename_i hs;cases h;exact ⟨hu,hs⟩
  ·cases h
 ·cases h
theorem Xw {t:TypeId} (h:J3 P t=true):P.underlying t=some .string:=by
 unfold J3 at h;split at h
 ·assumption
 ·cases h
theorem QA {b off s l h m:Nat} {L:Loc} (hj:j b=some L) (h1:l≤h) (h2:h≤m):
  R ρ j (Cv b off s l h m) (.slice (some (if m=l then ⟨L.blk,L.off+off,none⟩ else (⟨L.blk,L.off+off,none⟩:Addr).add (l*s))) (h-l) (m-l)):=by
 unfold Cv;split
 ·rename_i e;have e:=aY e;subst e;refine ⟨L,hj,?_,?_⟩
  ·show h-m≤0;omega
  ·rw [yak rfl];simp [vF]
 ·rename_i e;have e:m≠l:=fun hh=>by subst hh;rw [yb7] at e;cases e
  refine ⟨L,hj,?_,?_⟩
  ·show h-l≤m-l;omega
  ·rw [yah e,addr_add];show _=Value.slice (some ⟨L.blk,L.off+(off+l*s),none⟩) (h-l) (m-l);rw [ybn]
theorem zyl {b off s l h len k:Nat} {L:Loc} (hj:j b=some L) (h1:l≤h) (h2:h≤len) (h3:k+len≤L.cap∧0<L.cap):
  R ρ j (KS b off s l h len k) (.slice (some (if L.cap-k=l then ⟨L.blk,L.off+off,none⟩ else (⟨L.blk,L.off+off,none⟩:Addr).add (l*s))) (h-l) (L.cap-k-l)):=by
 unfold KS;split
 ·rename_i e;have e:=aY e;subst e;refine ⟨L,hj,?_,?_⟩
  ·exact ⟨by omega,h3.2⟩
  ·have:(⟨L.blk,L.off+off,none⟩:Addr).add (0*s)=⟨L.blk,L.off+off,none⟩:=by rw [addr_add];simp
   rw [this];simp [vF]
 ·split
  ·rename_i e;rw [yaD] at e;refine ⟨L,hj,?_,?_⟩
   ·exact ⟨by show k+l+(h-l)≤L.cap;omega,h3.2⟩
   ·rw [yah (by omega),addr_add];show _=Value.slice (some ⟨L.blk,L.off+(off+l*s),none⟩) (h-l) (L.cap-(k+l));rw [ybn,Nat.sub_sub]
  ·rename_i e;have e: ¬l<len:=fun hh=>by rw [←yaD] at hh;rw [hh] at e;cases e
   exact ⟨_,_,by rw [show h-l=0 by omega]⟩
theorem zkj (he:ER ρ j N env a) {c:Nat} {lo hi:Option Operand} (hb:BZ env c lo hi=true):
  ∃ l h,l≤h∧h≤c∧ ∀(AB:Bool) (len cap':Nat),c≤cap'→
   (Instr.sliceBounds AB len cap' (lo.map a.eval) (hi.map a.eval) none).run P w= .ok (l,h,cap') w:=by
 unfold BZ at hb;split at hb
 case h_2=>cases hb
 rename_i l ho hl;split at hb
 case h_2=>cases hb
 rename_i k e hoe;split at hb
 case h_2=>cases hb
 rename_i p q hbn;split at hb
 case h_2=>cases hb
 rename_i h1 h2;have h1:=yam h1;have h2:=yam h2;obtain ⟨x,ex,x1,x2⟩:=zq (ρ:=ρ) hbn;have hr:a.eval ho= .int k (e.den ρ):=bR he hoe;rw [ex] at hr;have hh: ∀y (cd:BoundsCode),x≤y→(Instr.sliceBound (a.eval ho) y cd).run P w= .ok x w:=fun y cd hy=>by
  simp only [Instr.sliceBound,hr,asIntOf,yad,yag,yac];rw [yak (by simp only [ybQ];omega)];simp
 refine ⟨l,x,by omega,by omega,fun AB len cap' hc=> ?_⟩;simp only [Instr.sliceBounds,yaJ,ybs,yad,hh cap' _ (by omega),yac,yag];cases lo with
 | none=>simp only [oI] at hl;cases hl;rfl
 | some y=>simp only [yaJ,yad,run_sliceBound he hl (show l≤x by omega),yac,yag]
theorem zkB (hi:Inv ρ w0 j H w) (he:ER ρ j N env a) {t:TypeId} {x:AV} {u:Value} {lo hi' mx:Option Operand} {v:AV} (hx:R ρ j x u) (h:Ce P env t x lo hi' mx=some v):
  ∃ v',(Instr.sliceAt t u (lo.map a.eval) (hi'.map a.eval) (mx.map a.eval)).run P w= .ok v' w∧R ρ j v v':=by
 have plain: ∀d,P.underlying t=some d→(∀n e,d≠ .array n e)→(Instr.sliceAt t u (lo.map a.eval) (hi'.map a.eval) (mx.map a.eval)).run P w=(Instr.slice t u (lo.map a.eval) (hi'.map a.eval) (mx.map a.eval)).run P w:=fun d hd hn=>by
  unfold Instr.sliceAt;simp only [yad,run_underlying hd,yac]
 cases x<;>simp only [Ce] at h
 case str p=>
  split at h
  ·rename_i hs;split at h
   ·rename_i l hh m hb;cases h;obtain ⟨g,rfl⟩:=hx;have hu:=Xw hs;obtain ⟨h1,h2,h3,h4,h5⟩:=Br (P:=P) (w:=w) he hb;have hm:=h4 rfl;subst hm;have:=h5 false p.length (yaa _);refine ⟨.string ((strOf p).extract l hh),?_,fun b hb=>g b (ybi (ybP hb)),?_⟩
    ·rw [plain _ hu (by simp)];unfold Instr.slice;simp only [yad,run_underlying hu,yac,ybs,ycl,yaW,ybW];have e:(⟨(p.map UInt8.ofNat).toArray⟩:ByteArray).size=p.length:=Wd p;rw [e];simp only [ybs,ycl,yaW,ybW] at this;rw [this];rfl
    ·congr 1;apply ydi;have:((strOf p).extract l hh).data=(strOf p).data.extract l hh:=by simp [ByteArray.data_extract]
     rw [this];simp only [strOf];apply yck;simp [ycR]
   ·cases h
  ·cases h
 case dz=>
  split at h
  ·rename_i s q hs hb;cases h;obtain ⟨l,hh,m⟩:=q;simp only [R] at hx;subst hx;obtain ⟨e,hu,hs'⟩:=BB hs;obtain ⟨h1,h2,h3,h4,h5⟩:=Br (P:=P) (w:=w) he hb;have:=h5 true 0 (yaa _);have e1:l=0:=by omega
   have e2:hh=0:=by omega
   have e3:m=0:=by omega
   subst e1 e2 e3;refine ⟨.slice none 0 0,?_,rfl⟩;rw [plain _ hu (by simp)];unfold Instr.slice;simp only [yad,run_underlying hu,yac,this,run_sizeOf hs',yag];simp
  ·cases h
 case emp=>
  split at h
  ·rename_i s hs;split at h
   ·rename_i q hb;cases h;obtain ⟨l,hh,m⟩:=q;obtain ⟨p,c,rfl⟩:=hx;obtain ⟨e,hu,hs'⟩:=BB hs;obtain ⟨h1,h2,h3,h4,h5⟩:=Br (P:=P) (w:=w) he hb;have:=h5 true c (yar _);have e1:l=0:=by omega
    have e2:hh=0:=by omega
    subst e1 e2;refine ⟨.slice (some p) 0 c,?_,_,_,rfl⟩;rw [plain _ hu (by simp)];unfold Instr.slice;simp only [yad,run_underlying hu,yac,this,run_sizeOf hs',yag];simp only [ycl,yaW,ybW,ycK,yaJ];by_cases hc:c=0
    ·rw [yak hc]
    ·rw [yah hc];have:p.add (0*s)=p:=by unfold Addr.add;simp
     rw [this]
   ·cases h
  ·cases h
 case sl b off len cap=>
  split at h
  ·rename_i s hs;obtain ⟨L,hj,hck,rfl⟩:=hx;obtain ⟨e,hu,hs'⟩:=BB hs;rw [plain _ hu (by simp)];unfold Instr.slice;simp only [yad,run_underlying hu,yac];unfold Fj at h;split at h
   ·rename_i c;split at h
    ·rename_i l hh m hb;cases h;obtain ⟨h1,h2,h3,h4,h5⟩:=Br (P:=P) (w:=w) he hb;have:=h5 true c (yaa _);have e3:(if mx.isSome=true then m else c)=m:=by
      cases mx with
      | none=>simp [h4 rfl]
      | some _=>rfl
     rw [e3] at this;refine ⟨_,by simp only [vF,this,run_sizeOf hs',yac,yad,yag,yaJ,ybs];rfl,?_⟩;have:=QA (ρ:=ρ) (s:=s) hj h1 h2 (off:=off);by_cases hm:m=l
     ·rw [yak hm];rw [yak hm] at this;exact this
     ·rw [yah hm];rw [yah hm] at this;exact this
    ·split at h
     ·rename_i hb;cases h;rename_i hbs;obtain ⟨l,hh,h1,h2,h3⟩:=zkj (P:=P) (w:=w) he hbs;have:=h3 true len c (yaa _);refine ⟨_,by simp only [vF,this,run_sizeOf hs',yac,yad,yag,yaJ,ybs];rfl,?_⟩;by_cases hm:c=l
      ·exact ⟨_,_,_,by rw [yak hm]⟩
      ·exact ⟨_,_,_,by rw [yah hm]⟩
     ·cases h
   ·rename_i k;have hck:k+len≤L.cap∧0<L.cap:=hck;split at h
    ·rename_i l hh m hb;obtain ⟨h1,h2,h3,h4,h5⟩:=Br (P:=P) (w:=w) he hb;have:=h5 true (L.cap-k) (by omega);split at h
     ·cases h;simp only [Option.isSome_some,ycD,yaJ] at this;refine ⟨_,by simp only [vF,this,run_sizeOf hs',yac,yad,yag,yaJ,ybs];rfl,?_⟩;have:=QA (ρ:=ρ) (s:=s) hj h1 h2 (off:=off);by_cases hm:m=l
      ·rw [yak hm];rw [yak hm] at this;exact this
      ·rw [yah hm];rw [yah hm] at this;exact this
     ·cases h;simp only [ycl,yaW,ybW,ybs] at this;refine ⟨_,by simp only [vF,this,run_sizeOf hs',yac,yad,yag,yaJ,ybs];rfl,?_⟩;have hm:=h4 rfl;have:=zyl (ρ:=ρ) (s:=s) hj h1 (yas h2 h3) hck (off:=off);by_cases hm:L.cap-k=l
      ·rw [yak hm];rw [yak hm] at this;exact this
      ·rw [yah hm];rw [yah hm] at this;exact this
    ·cases h
  ·cases h
 case ptr b off=>
  split at h
  ·rename_i n e s hs;split at h
   ·rename_i l hh m hb;cases h;obtain ⟨L,hj,rfl⟩:=hx;obtain ⟨hu,hs'⟩:=EP hs;obtain ⟨h1,h2,h3,h4,h5⟩:=Br (P:=P) (w:=w) he hb;have:=h5 false n (yaa _);have e3:(if mx.isSome=true then m else n)=m:=by
     cases mx with
     | none=>simp [h4 rfl]
     | some _=>rfl
    rw [e3] at this;unfold Instr.sliceAt;refine ⟨_,by simp only [yad,run_underlying hu,yac,Instr.sureAddr,yag,this,run_sizeOf hs'];rfl,?_⟩;exact QA (ρ:=ρ) (s:=s) hj h1 h2 (off:=off)
   ·cases h
  ·cases h
 all_goals cases h
theorem zlA (hi:Inv ρ w0 j H w) (he:ER ρ j N env a) {t:TypeId} {x:Operand} {lo hi' mx:Option Operand} (ho:o.op= .slice t x lo hi' mx) (h:JY P t x lo hi' mx env H=some v):LS P ρ j w a o v:=by
 unfold JY at h;split at h
 ·rename_i u hx;have both: ∃v',(Instr.sliceAt t (a.eval x) (lo.map a.eval) (hi'.map a.eval) (mx.map a.eval)).run P w= .ok v' w∧R ρ j v v':=by
   exact zkB hi he (bR he hx) h
  obtain ⟨v',h1,h2⟩:=both;refine ⟨v',?_,h2⟩;simp only [execOp,ho,yad,h1,yac,yag]
 ·cases h
theorem Et (hi:Inv ρ w0 j H w) {sz n:Nat} {x:AV} {u:Value} {l:List AV} (hx:R ρ j x u) (h:nW H sz n x=some l):
  ∃ xs:List Value,(Builtin.firstCells sz n u).run P w= .ok xs.toArray w∧RL ρ j l xs:=by
 cases x<;>simp only [nW] at h
 case dz=>
  simp only [R] at hx;subst hx;cases n with
  | zero=>cases h;exact ⟨[],rfl,rfl⟩
  | succ n=>cases h
 case emp=>
  obtain ⟨p,c,rfl⟩:=hx;cases n with
  | zero=>cases h;refine ⟨[],?_,rfl⟩;simp [Builtin.firstCells,loadCells,loadCellsFrom]
  | succ n=>cases h
 case str p=>
  obtain ⟨g,rfl⟩:=hx;have key: ∀(q:List Nat),(∀b∈q,b<256)→RL ρ j (Fq q) ((q.map UInt8.ofNat).map fun b=> .int .u8 b.toNat):=by
   intro q
   induction q with
   | nil=>intro _;rfl
   | cons b q ih=>
    intro hq;refine ⟨_,_,rfl,?_,ih fun c hc=>hq c (ya3 _ hc)⟩;have:=hq b (ya0 ..);simp only [R,SE.den];congr 1;simp;omega
  split at h
  case h_2=>cases h
  obtain ⟨h1,h2⟩:=(key p g).take h;refine ⟨_,?_,h1⟩;simp only [Builtin.firstCells,yag];congr 1;apply yck;have:((⟨(p.map UInt8.ofNat).toArray⟩:ByteArray).extract 0 n).data=(p.map UInt8.ofNat).toArray.extract 0 n:=by simp [ByteArray.data_extract]
  rw [this];simp [ycR,List.map_take]
 case sl b off len cap=>
  split at h
  ·cases h
  ·split at h
   ·cases h
   ·rename_i r hr;split at h
    ·rename_i hb;cases h;have hb:off+n*sz≤r.n:=yam hb;obtain ⟨L,hj,hck,rfl⟩:=hx;exact hi.loadCells hj hr hb
    ·cases h
 all_goals cases h
theorem IG {x:AV} {u:Value} {n:Nat} (hx:R ρ j x u) (h:sO x=some n):(Builtin.lenOf u).run P w= .ok n w∧((∃b c,u= .slice b n c)∨(∃s,u= .string s∧s.size=n)):=by
 cases x<;>simp only [sO] at h<;>try (cases h;done)
 case dz=>simp only [R] at hx;subst hx;cases h;exact ⟨rfl,.inl ⟨_,_,rfl⟩⟩
 case emp=>obtain ⟨p,c,rfl⟩:=hx;cases h;exact ⟨rfl,.inl ⟨_,_,rfl⟩⟩
 case str p=>obtain ⟨g,rfl⟩:=hx;cases h;exact ⟨by simp [Builtin.lenOf,ByteArray.size],.inr ⟨_,rfl,by simp [ByteArray.size]⟩⟩
 case sl b off len cap=>obtain ⟨L,hj,hck,rfl⟩:=hx;cases h;exact ⟨rfl,.inl ⟨_,_,rfl⟩⟩
theorem U3: ∀ {l:List AV} {m:List Nat},EK l=some m→(∀b∈m,b<256)∧l=Fq m
 | [], m,h=>by unfold EK at h;cases h;exact ⟨by simp,rfl⟩
 | x::l,m,h=>by
  unfold EK at h;split at h
  ·cases ‹_::_= []›
  ·rename_i n l' heq;cases heq;split at h
   ·rename_i hn;split at h
    ·rename_i m' hm;cases h;obtain ⟨h1,h2⟩:=U3 hm;rw [yaD] at hn;refine ⟨fun b hb=> ?_,by rw [h2];rfl⟩;rcases yaj.1 hb with rfl|hb
     ·exact hn
     ·exact h1 b hb
    ·cases h
   ·cases h
  ·cases h
theorem UC {msg:String}: ∀(m:List Nat) (s:ByteArray) (xs:List Value),(∀b∈m,b<256)→RL ρ j (Fq m) xs→
    (forIn xs s (fun c s=>do
      let .int .u8 n:=c|stuck msg
      pure (ForInStep.yield (s.push (UInt8.ofNat n.toNat))):Value→ByteArray→Sem (ForInStep ByteArray))).run P w= .ok (s++strOf m) w
  | [], s,xs,_,hr=>by
    have e:xs= []:=hr;subst e;simp only [List.forIn_nil,yag];congr 1;apply ydi;rw [ycv];simp [strOf]
  | b::m,s,_,hb,hr=>by
    obtain ⟨v,xs,rfl,hv,hr⟩:=hr;simp only [R,SE.den] at hv;subst hv;have ih:=UC (msg:=msg) m (s.push (UInt8.ofNat b)) xs (fun c hc=>hb c (ya3 _ hc)) hr;rw [ydI];simp only [yad,yag,yac];have e:(Int.ofNat b).toNat=b:=by simp
    rw [e,ih];congr 1;apply ydi;rw [ycv,ycv];simp [strOf,ByteArray.data_push]
theorem zkg (hi:Inv ρ w0 j H w) {src dst e:TypeId} {x:AV} {u:Value} (hs:P.underlying src=some (.slice e)) (hd:P.underlying dst=some .string) (hx:R ρ j x u) (h:vQ P H e x=some v):
  ∃ v',(convert src dst u).run P w= .ok v' w∧R ρ j v v':=by
 unfold vQ at h;split at h
 case h_2=>cases h
 rename_i he;split at h
 ·cases h
 ·rename_i hns;split at h
  ·cases h
  ·rename_i n hn;split at h
   ·cases h
   ·rename_i l hl;split at h
    case h_2=>cases h
    rename_i m hm;cases h;obtain ⟨hb,rfl⟩:=U3 hm;obtain ⟨_,hcase⟩:=IG (P:=P) (w:=w) hx hn;obtain ⟨xs,h1,h2⟩:=Et (P:=P) hi hx hl;rcases hcase with ⟨b,c,rfl⟩|⟨s,rfl,_⟩
    ·refine ⟨.string (strOf m),?_,hb,rfl⟩;have hrun:(convert src dst (.slice b n c)).run P w=(Conv.bytesToString (.slice b n c)).run P w:=by
      unfold convert;simp only [yad,run_underlying hs,run_underlying hd,yac,run_underlying he]
     rw [hrun];cases b with
     | none=>
      have e0:xs= []:=by
       simp only [Builtin.firstCells,yag] at h1;have:=yaB (fun r=>match r with|Result.ok (x:Array Value) _=>x.toList|_=> []) h1;simpa using this.symm
      subst e0;have:m= []:=by
       cases m with
       | nil=>rfl
       | cons b m=>obtain ⟨_,_,hh,_⟩:=h2;cases hh
      subst this;rfl
     | some p=>
      simp only [Builtin.firstCells,Nat.mul_one] at h1;have hl:=fun msg=>UC (P:=P) (w:=w) (msg:=msg) m ByteArray.empty xs hb h2;simp only [←List.forIn_toArray] at hl;simp only [Conv.bytesToString,yad,h1,yac];refine ydf (yaB (fun r=>Result.andThen r _) (hl _)) ?_;simp
    ·exfalso;cases x<;>simp only [R] at hx
     case str=>exact hns _ rfl
     case ptr=>obtain ⟨_,_,hh⟩:=hx;cases hh
     case sl=>obtain ⟨_,_,_,hh⟩:=hx;cases hh
     case emp=>obtain ⟨_,_,hh⟩:=hx;cases hh
     case nM=>obtain ⟨_,_,_,hh,_⟩:=hx;cases hh
     case mg=>obtain ⟨_,_,_,hh⟩:=hx;cases hh
     case map=>obtain ⟨_,_,hh⟩:=hx;cases hh
     case func=>obtain ⟨_,_,hh,_⟩:=hx;cases hh
     case iface=>obtain ⟨_,hh,_⟩:=hx;cases hh
     case agg=>obtain ⟨_,hh,_⟩:=hx;cases hh
     case aK=>obtain ⟨_,hh,_⟩:=hx;cases hh
     case cst=>unfold sO at hn;cases hn
     case opq=>unfold sO at hn;cases hn
     case gH=>unfold sO at hn;cases hn
     case sx=>obtain ⟨_,_,_,_,hh,_⟩:=hx;cases hh
     all_goals cases hx
theorem zis (hi:Inv ρ w0 j H w) (he:ER ρ j N env a) {s d:TypeId} {x:Operand} (ho:o.op= .convert s d x) (h:EL P s d x env H=some v):LS P ρ j w a o v:=by
 unfold EL at h;split at h
 case h_2=>cases h
 rename_i u hx;have hr:=bR he hx;have glue:(∃v',(convert s d (a.eval x)).run P w= .ok v' w∧R ρ j v v')→LS P ρ j w a o v:=fun ⟨v',h1,h2⟩=>
  ⟨v',by simp only [execOp,ho,yad,h1,yac,yag],h2⟩
 unfold xW at h;split at h
 ·cases h
 ·rename_i sd hs;split at h
  ·rename_i k hd;split at h
   ·rename_i k' n;cases h;simp only [R] at hr;rw [hr] at glue;refine glue ⟨.int k (k.wrap (n.den ρ)),?_,by rw [←zpF];rfl⟩;unfold convert;simp only [yad,run_underlying hs,run_underlying hd,yac];rfl
   ·cases h
  ·rename_i hd;split at h
   ·exact glue (zkg hi hs hd hr h)
   ·split at h
    ·cases h;refine glue ⟨_,?_,hr⟩;obtain ⟨g,hu⟩:=hr;rw [hu];unfold convert;simp only [yad,run_underlying hs,run_underlying hd,yac];rfl
    ·cases h
   ·cases h
  ·cases h
theorem OY {e:SE} {sz:Nat} {b:Option Addr} {len:Nat}: ∀ {l:List (SE×Nat)} {n:Nat},Fy e l=some n→rX ρ j sz b len l→ ∃bb o L k,b=some ⟨bb,o,none⟩∧j n=some L∧L.blk=bb∧e.den ρ=Int.ofNat k∧k<len∧L.off=o+sz*k
 | [], _,h,_=>by cases h
 | p::l,n,h,r=>by
  unfold Fy at h;split at h
  ·rename_i hb;cases h;rw [←SE.beq_eq hb];exact r.1
  ·exact OY h r.2
theorem ziq (he:ER ρ j N env a) {t:TypeId} {x i:Operand} (ho:o.op= .indexAddr t x i) (h:Jw P t x i env H=some v):LS P ρ j w a o v:=by
 unfold Jw at h;split at h
 case h_2=>cases h
 rename_i q e0 sz l k e hx hi;split at h
 case h_2=>cases h
 rename_i s hs;split at h
 case h_2=>cases h
 rename_i hb;split at h
 case h_2=>cases h
 rename_i n hf;cases h;have hb:=aY hb;subst hb;obtain ⟨h1,b,len,cap,h2,h3,h4⟩:=bR he hx;obtain ⟨bb,o',L,kk,rfl,h5,rfl,h6,h7,h8⟩:=OY hf h4;have hi:=bR he hi;simp only [R] at hi;rw [h6] at hi;obtain ⟨et,hut,hs'⟩:=BB hs;refine ⟨.pointer (some ⟨L.blk,L.off+0,none⟩),?_,L,h5,rfl⟩;simp only [execOp,ho,h2,hi,Instr.indexAt,asIntOf,yad,yag,yac,run_underlying hut];rw [yak (by simp only [ybQ];omega)];simp only [yad,run_sizeOf hs',yac,yag,yaS,addr_add,yaF,h8,ybQ];rw [ybz]
theorem zgO (he:ER ρ j N env a) {t:TypeId} {x i:Operand} (ho:o.op= .indexAddr t x i) (h:IJ P t x i env H=some v):LS P ρ j w a o v:=by
 unfold IJ at h;split at h
 ·rename_i n off len cap k hx hk;obtain ⟨kk,hk⟩:=wS he hk;obtain ⟨L,hj,hck,hu⟩:=bR he hx;split at h
  ·rename_i s hs;split at h
   ·rename_i hb;rw [yaD] at hb;cases h;obtain ⟨e,hut,hs'⟩:=BB hs;refine ⟨.pointer (some ⟨L.blk,L.off+(off+k*s),none⟩),?_,L,hj,rfl⟩;simp only [execOp,ho,hu,hk,Instr.indexAt,asIntOf,yad,yag,yac,run_underlying hut];rw [yak (by omega)];simp only [yad,run_sizeOf hs',yac,yag,yaS,addr_add,ybn]
   ·cases h
  ·cases h
 ·rename_i n off k hx hk;obtain ⟨kk,hk⟩:=wS he hk;obtain ⟨L,hj,hu⟩:=bR he hx;split at h
  ·rename_i len e s hs;split at h
   ·rename_i hb;rw [yaD] at hb;cases h;obtain ⟨hut,hs'⟩:=EP hs;refine ⟨.pointer (some ⟨L.blk,L.off+(off+k*s),none⟩),?_,L,hj,rfl⟩;simp only [execOp,ho,hu,hk,Instr.indexAt,asIntOf,yad,yag,yac,run_underlying hut,Instr.sureAddr];rw [yak (by omega)];simp only [yad,run_sizeOf hs',yac,yag,yaS,addr_add,ybn]
   ·cases h
  ·cases h
 ·exact ziq he ho h
theorem zlB (he:ER ρ j N env a) {t:TypeId} {x i:Operand} (ho:o.op= .index t x i) (h:JZ P t x i env H=some v):LS P ρ j w a o v:=by
 unfold JZ at h;split at h
 ·rename_i cs k hx hk;obtain ⟨kk,hk⟩:=wS he hk;obtain ⟨vs,hu,hr⟩:=bR he hx;split at h
  ·rename_i len e s hs;split at h
   ·rename_i hb;rw [yaD] at hb;obtain ⟨hut,hs'⟩:=EP hs;obtain ⟨y,h1,h2⟩:=Bg (P:=P) (w:=w) (vs:=vs.toArray) h (by simpa using hr);refine ⟨y,?_,h2⟩;simp only [execOp,ho,hu,hk,Instr.index,asIntOf,yad,yag,yac,run_underlying hut];rw [yak (by omega)];simp only [yad,run_sizeOf hs',yac,yag,yaS];have h1:(part e vs.toArray (k*s)).run P w= .ok y w:=h1;rw [h1];rfl
   ·cases h
  ·cases h
 ·rename_i p k hx hk;obtain ⟨kk,hk⟩:=wS he hk;obtain ⟨g,hu⟩:=bR he hx;split at h
  ·rename_i hs;have hut:=Xw hs;unfold YX at h;split at h
   ·rename_i b hb;cases h;have hlt:k<p.length:=by
     rcases ybU k p.length with h'|h'
     ·exact h'
     ·rw [yaT h'] at hb;cases hb
    have hbb:b<256:=g b (ya8 hb);refine ⟨.int .u8 (b:Int),?_,rfl⟩;have hget:(⟨(p.map UInt8.ofNat).toArray⟩:ByteArray)[k]? =some (UInt8.ofNat b):=by
     have hsz:k<(⟨(p.map UInt8.ofNat).toArray⟩:ByteArray).size:=by simp [ByteArray.size];exact hlt
     rw [getElem?_pos (⟨(p.map UInt8.ofNat).toArray⟩:ByteArray) k hsz];congr 1;have:p[k]=b:=by rw [yai hlt] at hb;exact yaE hb
     show ((p.map UInt8.ofNat).toArray)[k]'(by simpa using hlt)=_;simp [this]
    simp only [execOp,ho,hu,hk,Instr.index,asIntOf,yad,yag,yac,run_underlying hut];rw [yak (by omega),yaS,hget];simp;omega
   ·cases h
  ·cases h
 ·cases h
theorem zpT {t:TypeId} {f:Nat} {fd:Field} (h:Fg P t f=some fd): ∃fs,P.underlying t=some (.struct fs)∧fs[f]? =some fd:=by
 unfold Fg at h;split at h
 ·rename_i fs hu;exact ⟨fs,hu,h⟩
 ·cases h
theorem zlC (he:ER ρ j N env a) {t:TypeId} {x:Operand} {f:Nat} (ho:o.op= .field t x f) (h:J2 P t x f env H=some v):LS P ρ j w a o v:=by
 unfold J2 at h;split at h
 ·rename_i fd cs hf hx;obtain ⟨vs,hu,hr⟩:=bR he hx;obtain ⟨fs,hut,vY⟩:=zpT hf;obtain ⟨y,h1,h2⟩:=Bg (P:=P) (w:=w) (vs:=vs.toArray) h (by simpa using hr);refine ⟨y,?_,h2⟩;simp only [execOp,ho,hu,Instr.field,yad,run_underlying hut,yac,vY,asAgg,yag,h1]
 ·cases h
theorem zjW (he:ER ρ j N env a) {t:TypeId} {x:Operand} (ho:o.op= .sliceToArrayPointer t x) (h:JH P t x env H=some v):LS P ρ j w a o v:=by
 unfold JH at h;split at h
 ·rename_i n e s b off len cap hs hx;obtain ⟨L,hj,hck,hu⟩:=bR he hx;obtain ⟨hut,hs'⟩:=EP hs;split at h
  ·rename_i hb;have hb:=yam hb;cases h;refine ⟨.pointer (some ⟨L.blk,L.off+off,none⟩),?_,L,hj,rfl⟩;simp only [execOp,ho,hu,Instr.arrayAt,yad,run_underlying hut,yac];rw [yah (by omega)];rfl
  ·cases h
 ·rename_i n e s i len sz l hs hx;obtain ⟨h1,b,len',cap,h2,h3,h4⟩:=bR he hx;obtain ⟨hut,hs'⟩:=EP hs;split at h
  ·rename_i hb hf;have hb:=yam hb;cases h;obtain ⟨bb,o',L,kk,rfl,h5,rfl,h6,h7,h8⟩:=OY hf h4;have h3:Int.ofNat len'=Int.ofNat len:=h3;have h3:=Int.ofNat.inj h3;have h6:Int.ofNat 0=Int.ofNat kk:=h6;have h6:=Int.ofNat.inj h6;subst h6;refine ⟨.pointer (some ⟨L.blk,L.off+0,none⟩),?_,L,h5,rfl⟩;simp only [execOp,ho,h2,Instr.arrayAt,yad,run_underlying hut,yac];rw [yah (by omega)];simp only [h8,ydt,yaF];rfl
  ·cases h
 ·cases h
theorem zhN (he:ER ρ j N env a) {fn:Fn} {first cap:Array Operand} (ho:o.op= .makeFunc fn first cap) (h:IU fn first cap env H=some v):LS P ρ j w a o v:=by
 unfold IU at h;split at h
 ·rename_i f;split at h
  ·rename_i l m hl hm;cases h;have h1:=IC he hl;have h2:=IC he hm;refine ⟨.func (.func f) (first.map a.eval) (cap.map a.eval),by simp only [execOp,ho,Instr.makeFunc,yad,yag,yac],_,_,?_,h1,h2⟩;congr 1<;>apply yck<;>simp
  ·cases h
 ·cases h
theorem zgN (he:ER ρ j N env a) {t:TypeId} {x:Operand} (ho:o.op= .makeInterface t x) (h:II P t x env H=some v):LS P ρ j w a o v:=by
 unfold II at h;split at h
 ·cases h
 ·cases h
 ·rename_i d hn hd;split at h
  ·rename_i u hx;cases h;refine ⟨.iface t (a.eval x),?_,_,rfl,bR he hx⟩;simp only [execOp,ho,Instr.makeInterface,yad,run_underlying hd,yac];cases d<;>first|(exact absurd hd (hn _))|rfl
  ·cases h
theorem zgd (he:ER ρ j N env a) {x:Operand} {t t':TypeId} {ok:Bool} (ho:o.op= .typeAssert x t' t ok) (h:Ih P x t' t ok env H=some v):LS P ρ j w a o v:=by
 unfold Ih at h;split at h
 ·cases h
 ·cases h
 ·rename_i d hn hd;split at h
  ·rename_i t2 u hx;obtain ⟨y,hu,hr⟩:=bR he hx;split at h
   ·rename_i hb;have hb:=aY hb;subst hb;cases h;refine ⟨if ok then .tuple #[y,.bool true] else y,?_,?_⟩
    ·simp only [execOp,ho,hu,Instr.typeAssert,yad,run_underlying hd,yac];cases d<;>first|(exact absurd hd (hn _))|(cases ok<;>simp)
    ·cases ok
     ·exact hr
     ·exact ⟨_,rfl,.two hr rfl⟩
   ·cases h
  ·cases h
theorem ET {t et:TypeId} {kd:TypeDesc} (h:mapOf P t=some (kd,et)): ∃kt,P.underlying t=some (.map kt et)∧P.underlying kt=some kd∧((∃k,kd= .int k)∨kd= .string):=by
 unfold mapOf at h;split at h
 ·rename_i kt et' hu;split at h
  ·rename_i k hk;cases h;exact ⟨kt,hu,hk,.inl ⟨k,rfl⟩⟩
  ·rename_i hk;cases h;exact ⟨kt,hu,hk,.inr rfl⟩
  ·cases h
 ·cases h
theorem NU {kd:TypeDesc} {x y:AV} {u v:Value} {b:Bool} (hx:R ρ j x u) (hy:R ρ j y v) (h:KA kd x y=some b):Instr.sameNow kd u v=some b:=by
 unfold KA at h;split at h
 ·split at h
  ·split at h
   ·rename_i hk;obtain rfl:=Qp hk;have h:=zms (ρ:=ρ) h;simp only [R] at hx hy;subst hx hy;simp [Instr.sameNow,←h]
   ·cases h
  ·cases h
 ·split at h
  ·cases h;obtain ⟨g1,rfl⟩:=hx;obtain ⟨g2,rfl⟩:=hy;simp only [Instr.sameNow,bytes_beq g1 g2]
  ·cases h
 ·cases h
theorem uW {kd:TypeDesc} {k:AV} {u:Value} (hk:R ρ j k u): ∀ {es:List ME} {xs:List MapEntry} {i:Nat} {r:Option (Nat×AV)},RM ρ j es xs→xL kd k es i=some r→
  ∃ r',Instr.findNow kd u xs i=some r'∧(match r with
   | none=>r'=none
   | some (n,v)=> ∃v',r'=some (n,v')∧R ρ j v v'∧i≤n∧(∃e x,es[n-i]? =some e∧xs[n-i]? =some x∧e.val=v∧x.val=v'∧R ρ j e.key x.key))
 | [], xs,i,r,hr,h=>by
  have e:xs= []:=hr;subst e;unfold xL at h;cases h;exact ⟨none,rfl,rfl⟩
 | e::es,_,i,r,hr,h=>by
  obtain ⟨x,xs,rfl,h1,h2,h3,h4⟩:=hr;unfold xL at h;split at h
  ·rename_i hb;cases h;refine ⟨some (i,x.val),by unfold Instr.findNow;rw [NU hk h1 hb],x.val,rfl,h2,yaa _,e,x,by simp,by simp,rfl,rfl,h1⟩
  ·rename_i hb;obtain ⟨r',h5,h6⟩:=uW hk h4 h;refine ⟨r',by unfold Instr.findNow;rw [NU hk h1 hb];exact h5,?_⟩;cases r with
   | none=>exact h6
   | some q=>
    obtain ⟨n,v⟩:=q;obtain ⟨v',e1,e2,e3,e',x',e4,e5,e6⟩:=h6;have e3:i+1≤n:=e3;refine ⟨v',e1,e2,by omega,e',x',?_,?_,e6⟩
    ·rw [show n-i=(n-Nat.succ i)+1 by omega];simpa using e4
    ·rw [show n-i=(n-Nat.succ i)+1 by omega];simpa using e5
  ·cases h
theorem zjy {kt:TypeId} {kd:TypeDesc} (hk:P.underlying kt=some kd) (hkd:(∃k,kd= .int k)∨kd= .string) (b:Bool) (n:Nat) (u:Value):(Instr.checkKey b (n+1) kt u).run P w= .ok () w:=by
 rcases hkd with ⟨k,rfl⟩|rfl<;>unfold Instr.checkKey<;>simp only [yad,run_underlying hk,yac,yag]
theorem run_checkKey {kt:TypeId} {kd:TypeDesc} (hk:P.underlying kt=some kd) (hkd:(∃k,kd= .int k)∨kd= .string) (b:Bool) (u:Value):(Instr.checkKey b 10000 kt u).run P w= .ok () w:=
 zjy hk hkd b 9999 u
theorem run_findKey {kt:TypeId} {kd:TypeDesc} {u:Value} {xs:List MapEntry} {r:Option (Nat×Value)} (hk:P.underlying kt=some kd) (h:Instr.findNow kd u xs 0=some r):(Instr.findKey kt u xs).run P w= .ok r w:=by
 simp only [Instr.findKey,yad,run_underlying hk,yac,h,yag]
theorem uU {t:TypeId} {z:AV} (h:rT P t=some z): ∃v,(∀w',(zeroValue t).run P w'= .ok v w')∧R ρ j z v∧ofValue v=some z:=by
 unfold rT at h;split at h
 ·rename_i i hi;split at h
  ·rename_i v' hz;exact ⟨v',fun w'=>by simp [zeroValue,typeInfo,hi,hz],X4 h,h⟩
  ·cases h
 ·cases h
theorem RM.size: ∀ {es:List ME} {xs:List MapEntry},RM ρ j es xs→xs.length=es.length
 | [], xs,h=>by have e:xs= []:=h;rw [e];rfl
 | e::es,_,h=>by obtain ⟨x,xs,rfl,_,_,_,h4⟩:=h;simp [RM.size h4]
def Kw (w:World) (um:Value) (xs:Array MapEntry):Prop:=(um= .map none∧xs= #[])∨ ∃r c,um= .map (some r)∧w.heap[r]? =some (.map xs c)
theorem zit (hi:Inv ρ w0 j H w) {m:AV} {um:Value} {es:List ME} (hm:R ρ j m um) (h:rY H m=some es): ∃xs:Array MapEntry,RM ρ j es xs.toList∧Kw w um xs:=by
 unfold rY at h;split at h
 ·cases h;simp only [R] at hm;subst hm;exact ⟨#[],rfl,.inl ⟨rfl,rfl⟩⟩
 ·split at h
  ·rename_i es' c hma;cases h;obtain ⟨L,hj,rfl⟩:=hm;obtain ⟨arr,h1,h2⟩:=hi.gP hj hma;exact ⟨arr,h2,.inr ⟨_,_,rfl,h1⟩⟩
  ·cases h
 ·cases h
theorem Us {t kt et:TypeId} {kd:TypeDesc} {um uk v':Value} {xs:Array MapEntry} {n:Nat} {ok:Bool} (hu:P.underlying t=some (.map kt et)) (hkt:P.underlying kt=some kd) (hkd:(∃k,kd= .int k)∨kd= .string)
  (hm:Kw w um xs) (hf:Instr.findNow kd uk xs.toList 0=some (some (n,v'))):(Instr.lookup t um uk ok).run P w= .ok (if ok then .tuple #[v',.bool true] else v') w:=by
 unfold Instr.lookup;rcases hm with ⟨rfl,rfl⟩|⟨r,c,rfl,hr⟩
 ·simp only [yad,run_underlying hu,yac,yag,run_checkKey hkt hkd,run_findKey hkt hf]
 ·simp only [yad,run_underlying hu,yac,run_getObj_map P hr,yag,run_checkKey hkt hkd,run_findKey hkt hf]
theorem UB {t kt et:TypeId} {kd:TypeDesc} {um uk z:Value} {xs:Array MapEntry} {ok:Bool} (hu:P.underlying t=some (.map kt et)) (hkt:P.underlying kt=some kd) (hkd:(∃k,kd= .int k)∨kd= .string)
  (hm:Kw w um xs) (hf:Instr.findNow kd uk xs.toList 0=some none) (hz:(zeroValue et).run P w= .ok z w):(Instr.lookup t um uk ok).run P w= .ok (if ok then .tuple #[z,.bool false] else z) w:=by
 unfold Instr.lookup;rcases hm with ⟨rfl,rfl⟩|⟨r,c,rfl,hr⟩
 ·simp only [yad,run_underlying hu,yac,yag,run_checkKey hkt hkd,run_findKey hkt hf,hz]
 ·simp only [yad,run_underlying hu,yac,run_getObj_map P hr,yag,run_checkKey hkt hkd,run_findKey hkt hf,hz]
theorem NW {kd:TypeDesc} {k:AV} {u:Value} (hk:R ρ j k u): ∀ {kn:List (AV×Option AV)} {m0:List (Int×Option Value)} {r:Option AV},RX ρ j kn m0→Cn kd k kn=some r→
  ∃ x o,(x,o)∈m0∧RO ρ j r o∧Instr.sameNow kd u (.int .i64 x)=some true
 | [], m0,r,hr,h=>by unfold Cn at h;cases h
 | e::l,_,r,hr,h=>by
  obtain ⟨x,o,m',rfl,h1,h2,h3⟩:=hr;unfold Cn at h;split at h
  ·rename_i hb;cases h;exact ⟨x,o,by simp,h2,NU hk h1 hb⟩
  ·obtain ⟨y,o',h4,h5⟩:=NW hk h3 h;exact ⟨y,o',by simp [h4],h5⟩
  ·cases h
theorem qi {n:Nat} {kn log:List (AV×Option AV)} (h:H.uI n=some (kn,log)):H.m.get n=some (.dw kn log):=by
 unfold Heap.uI at h;split at h
 ·rename_i hm;cases h;exact hm
 ·cases h
theorem zjO (hi:Inv ρ w0 j H w) {t et:TypeId} {kd:TypeDesc} (hmo:mapOf P t=some (kd,et)) {m k:AV} {um uk:Value} {ok:Bool} (hm:R ρ j m um) (hk:R ρ j k uk) (h:wO P H kd et m k ok=some v):
  ∃ v',(Instr.lookup t um uk ok).run P w= .ok v' w∧R ρ j v v':=by
 obtain ⟨kt,hu,hkt,hkd⟩:=ET hmo;unfold wO at h;split at h
 case h_2=>cases h
 rename_i n;split at h
 case h_2=>cases h
 rename_i kn log hmx hik;obtain ⟨L,hj,rfl⟩:=hm;obtain ⟨ob,h1,h2⟩:=hi.obj n L hj;rw [qi hmx] at h1;cases h1;obtain ⟨_,_,_,arr,clock,gq,kG,m0,m1,h3,_,⟨hwf,_,_⟩,h6,_,h8,_⟩:=h2;split at h
 ·cases h
 all_goals
  rename_i hf;obtain ⟨x,o,g1,g2,g3⟩:=NW hk h6 hf;have hv:=h8 x o g1;have hkx: ∃kk,kd= .int kk∧uk= .int .i64 x:=by
   cases kd<;>cases uk<;>simp only [Instr.sameNow] at g3<;>try cases g3
   rename_i kk kk' a;split at g3
   ·rename_i hkk;subst hkk;have:a=x:=by simpa using g3
    exact ⟨kk,rfl,by rw [this]⟩
   ·cases g3
  obtain ⟨kk,rfl,rfl⟩:=hkx;have Dm:Kw w (.map (some L.blk)) arr:= .inr ⟨L.blk,clock,rfl,h3⟩
 ·cases h;obtain ⟨u,rfl,hu'⟩:=g2;rcases Bh (kk:=kk) (n:=x) arr.toList 0 hwf.keys with ⟨_,e2⟩|⟨p,e,e1,e2,e3⟩
  ·rw [Bw e2] at hv;cases hv
  ·rw [wY hwf (ya8 e2) e3] at hv;cases hv;refine ⟨_,Us hu hkt hkd Dm e1,?_⟩;cases ok
   ·exact hu'
   ·exact ⟨_,rfl,.two hu' rfl⟩
 ·have g2:o=none:=g2;subst g2;split at h
  ·cases h
  ·rename_i z hz;cases h;obtain ⟨z',z2,z3,_⟩:=uU (ρ:=ρ) (j:=j) hz;rcases Bh (kk:=kk) (n:=x) arr.toList 0 hwf.keys with ⟨e1,_⟩|⟨p,e,e1,e2,e3⟩
   ·refine ⟨_,UB hu hkt hkd Dm e1 (z2 w),?_⟩;cases ok
    ·exact z3
    ·exact ⟨_,rfl,.two z3 rfl⟩
   ·rw [wY hwf (ya8 e2) e3] at hv;cases hv
theorem zjP (hi:Inv ρ w0 j H w) {t:TypeId} {m k:AV} {um uk:Value} {ok:Bool} (hm:R ρ j m um) (hk:R ρ j k uk) (h:wN P H t m k ok=some v):
  ∃ v',(Instr.lookup t um uk ok).run P w= .ok v' w∧R ρ j v v':=by
 unfold wN at h;split at h
 ·cases h
 ·rename_i kd et hmo;obtain ⟨kt,hu,hkt,hkd⟩:=ET hmo;split at h
  ·exact zjO hi hmo hm hk h
  ·rename_i es hes;obtain ⟨xs,hr,Dm⟩:=zit hi hm hes;split at h
   ·cases h
   ·split at h
    ·cases h
    ·rename_i n a' hf;cases h;obtain ⟨r',h1,v',rfl,h3,_⟩:=uW hk hr hf;refine ⟨_,Us hu hkt hkd Dm h1,?_⟩;cases ok
     ·exact h3
     ·exact ⟨_,rfl,.two h3 rfl⟩
    ·rename_i hf;obtain ⟨r',h1,rfl⟩:=uW hk hr hf;split at h
     ·cases h
     ·rename_i z hz;cases h;obtain ⟨z',h2,h3,_⟩:=uU (ρ:=ρ) (j:=j) hz;refine ⟨_,UB hu hkt hkd Dm h1 (h2 w),?_⟩;cases ok
      ·exact h3
      ·exact ⟨_,rfl,.two h3 rfl⟩
theorem zjU (hi:Inv ρ w0 j H w) (he:ER ρ j N env a) {t:TypeId} {x i:Operand} {ok:Bool} (ho:o.op= .lookup t x i ok) (h:E8 P t x i ok env H=some v):LS P ρ j w a o v:=by
 unfold E8 at h;split at h
 ·rename_i m k hm hk;obtain ⟨v',h1,h2⟩:=zjP hi (bR he hm) (bR he hk) h;refine ⟨v',?_,h2⟩;simp only [execOp,ho,yad,h1,yac,yag]
 ·cases h
theorem zgJ {c:Call} {b:Builtin} {u:Value} (ho:o.op= .call c) (hc:c.callee= .builtin b) {f:Array TypeId→TypeId→Array Value→Sem Value}
  (hb: ∀ats ty cs args,builtin b ats ty cs args=(do pure (.value (←f ats ty args)))) (h:(f c.argTypes o.type (c.args.map a.eval)).run P w= .ok u w):(execOp a.eval o).run P w= .ok (.value u) w:=by
 simp only [execOp,ho,resolve,hc,yad,yag,yac,invoke,hb,h]
theorem zu {n:Nat} {x:AV} (h:uK n=some x):x= .int .i64 (.lit (.ofNat n)):=by
 unfold uK at h;rw [uT] at h;exact (yaE h).symm
theorem zuV {c:Call} {x:Operand} (h:c.args.toList= [x]):c.args.map a.eval= #[a.eval x]:=by
 apply yck;simp [h]
theorem H9 {c:Call} {t:TypeId} {l:List TypeId} (h:c.argTypes.toList=t::l):c.argTypes[0]? =some t:=by
 rw [←ybp,h];rfl
theorem zlz (hi:Inv ρ w0 j H w) {d:TypeDesc} {t:TypeId} {x:AV} {u:Value} {ats:Array TypeId} {ty:TypeId} (hx:R ρ j x u) (hd:P.underlying t=some d) (ht:ats[0]? =some t) (h:wM (some d) H x=some v):
  ∃ v',(Builtin.len_ ats ty #[u]).run P w= .ok v' w∧R ρ j v v':=by
 unfold wM at h;split at h
 ·rename_i heq;cases heq;split at h
  ·have:=zu h;subst this;simp only [R] at hx;subst hx;exact ⟨_,by unfold Builtin.len_;simp only [ht,yay,yau,yad,run_underlying hd,yac];rfl,rfl⟩
  ·have:=zu h;subst this;obtain ⟨p,c,rfl⟩:=hx;exact ⟨_,by unfold Builtin.len_;simp only [ht,yay,yau,yad,run_underlying hd,yac];rfl,rfl⟩
  ·have:=zu h;subst this;obtain ⟨L,_,_,rfl⟩:=hx;exact ⟨_,by unfold Builtin.len_;simp only [ht,yay,yau,yad,run_underlying hd,yac];rfl,rfl⟩
  ·cases h;obtain ⟨b,l,c,rfl,hl⟩:=hx;exact ⟨_,by unfold Builtin.len_;simp only [ht,yay,yau,yad,run_underlying hd,yac];rfl,by show Value.int .i64 _=_;rw [←hl];rfl⟩
  ·cases h;obtain ⟨b,l,c,rfl,hl⟩:=hx.2.2 _ rfl;exact ⟨_,by unfold Builtin.len_;simp only [ht,yay,yau,yad,run_underlying hd,yac];rfl,by show Value.int .i64 _=_;rw [←hl];rfl⟩
  ·cases h;obtain ⟨b,l,c,rfl,hl⟩:=hx.2.2 _ rfl;exact ⟨_,by unfold Builtin.len_;simp only [ht,yay,yau,yad,run_underlying hd,yac];rfl,by show Value.int .i64 _=_;rw [←hl];rfl⟩
  ·cases h;obtain ⟨_,b,l,c,rfl,hl,_⟩:=hx;exact ⟨_,by unfold Builtin.len_;simp only [ht,yay,yau,yad,run_underlying hd,yac];rfl,by show Value.int .i64 _=_;rw [←hl];rfl⟩
  ·cases h
 ·rename_i heq;cases heq;split at h
  ·have:=zu h;subst this;obtain ⟨g,rfl⟩:=hx;refine ⟨_,by unfold Builtin.len_;simp only [ht,yay,yau,yad,run_underlying hd,yac];rfl,?_⟩;simp [R,goInt,SE.den,ByteArray.size]
  ·cases h
 ·rename_i heq;cases heq;have:=zu h;subst this;exact ⟨_,by unfold Builtin.len_;simp only [ht,yay,yau,yad,run_underlying hd,yac];rfl,rfl⟩
 ·rename_i heq;cases heq;split at h
  ·have:=zu h;subst this;simp only [R] at hx;subst hx;exact ⟨_,by unfold Builtin.len_;simp only [ht,yay,yau,yad,run_underlying hd,yac];rfl,rfl⟩
  ·split at h
   ·rename_i es c hm;have:=zu h;subst this;obtain ⟨L,hj,rfl⟩:=hx;obtain ⟨arr,h1,h2⟩:=hi.gP hj hm;refine ⟨goInt arr.size,?_,?_⟩
    ·unfold Builtin.len_;simp only [ht,yay,yau,yad,run_underlying hd,yac,run_getObj_map P h1,yag]
    ·have:=RM.size h2;rw [ybc] at this;simp [R,goInt,SE.den];omega
   ·cases h
  ·cases h
 ·cases h
theorem zpO (hi:Inv ρ w0 j H w) (he:ER ρ j N env a) {c:Call} (ho:o.op= .call c) (hc:c.callee= .builtin .len) (h:yM P c.argTypes.toList c.args.toList env H=some v):LS P ρ j w a o v:=by
 unfold yM at h;split at h
 ·rename_i t l x hts hxs;split at h
  ·rename_i u hx;cases hd:P.underlying t with
   | none=>rw [hd] at h;cases h
   | some d=>
    rw [hd] at h;obtain ⟨v',h1,h2⟩:=zlz (P:=P) (ty:=o.type) hi (bR he hx) hd (H9 hts) h;exact ⟨v',zgJ ho hc (fun _ _ _ _=>rfl) (by rw [zuV hxs];exact h1),h2⟩
  ·cases h
 ·cases h
theorem Ig: ∀(cs:List AV) (off:Nat) (vs:List AV),(eY cs off vs).length=cs.length
 | [], _,_=>by unfold eY;rfl
 | c::cs,0,[]=>by unfold eY;rfl
 | c::cs,0,v::vs=>by unfold eY;simp [Ig cs 0 vs]
 | c::cs,o+1,vs=>by unfold eY;simp [Ig cs o vs]
theorem Ny: ∀(cs:List AV) (off:Nat) (vs:List AV) (i:Nat),i<cs.length→(eY cs off vs)[i]? =if off≤i∧i<off+vs.length then vs[i-off]? else cs[i]?
 | [], _,_,_,h=>by simp at h
 | c::cs,0,[],i,h=>by unfold eY;rw [yah (by simp)]
 | c::cs,0,v::vs,0,h=>by unfold eY;simp
 | c::cs,0,v::vs,i+1,h=>by
  unfold eY;simp only [yaG];rw [Ny cs 0 vs i (by simpa using h)];by_cases hc:i<vs.length
  ·rw [yak (by omega),yak (by simp;omega)];simp
  ·rw [yah (by omega),yah (by simp;omega)]
 | c::cs,o+1,vs,0,h=>by unfold eY;simp
 | c::cs,o+1,vs,i+1,h=>by
  unfold eY;simp only [yaG];rw [Ny cs o vs i (by simpa using h)];by_cases hc:o≤i∧i<o+vs.length
  ·rw [yak hc,yak (by omega)];congr 1;omega
  ·rw [yah hc,yah (by omega)]
theorem Y3: ∀(vs:List Value) (k off:Nat) (A:Array Value),off+k+vs.length≤A.size→
  ((vs.zipIdx k).foldl (fun cs (x:Value×Nat)=>cs.setIfInBounds (off+x.2) x.1) A).size=A.size∧
  ∀ i,((vs.zipIdx k).foldl (fun cs (x:Value×Nat)=>cs.setIfInBounds (off+x.2) x.1) A)[i]? =if off+k≤i∧i<off+k+vs.length then vs[i-(off+k)]? else A[i]?
 | [], k,off,A,_=>⟨rfl,fun i=>by rw [yah (by simp)];rfl⟩
 | v::vs,k,off,A,h=>by
  simp only [List.zipIdx_cons,List.foldl_cons];obtain ⟨h1,h2⟩:=Y3 vs (k+1) off (A.setIfInBounds (off+k) v) (by simp at h ⊢;omega);refine ⟨by rw [h1];simp,fun i=> ?_⟩;rw [h2];by_cases hk:i=off+k
  ·subst hk;rw [yah (by omega),yak (by simp)];simp at h;simp [show off+k<A.size by omega]
  ·by_cases hc:off+(k+1)≤i∧i<off+(k+1)+vs.length
   ·rw [yak hc,yak (by simp;omega)];rw [show i-(off+k)=(i-(off+(k+1)))+1 by omega];simp
   ·rw [yah hc,yah (by simp;omega),ycr (by omega)]
theorem NS (he:ER ρ j N env a): ∀ {ps:List (Nat×Operand)} {m:List (Nat×AV)},partsOf env ps=some m→
  ∃ qs:List (Nat×Value),ps.map (fun (i,x)=>(i,a.eval x))=qs∧m.map (·.1)=qs.map (·.1)∧RL ρ j (m.map (·.2)) (qs.map (·.2))
 | [], m,h=>by unfold partsOf at h;cases h;exact ⟨[],rfl,rfl,rfl⟩
 | p::ps,m,h=>by
  unfold partsOf at h;split at h
  ·cases h
  ·rename_i x hx;split at h
   ·rename_i m' hm;cases h;obtain ⟨qs,h1,h2,h3⟩:=NS he hm;exact ⟨(p.1,a.eval p.2)::qs,by simp [h1],by simp [h2],.cons (bR he hx) h3⟩
   ·cases h
theorem Ia {place place':Nat→Option (Nat×Nat)} (hp: ∀i x,place i=some x→place' i=some x): ∀ {ps:List (Nat×AV)} {qs:List (Nat×Value)} {cs l:List AV} {A:Array Value},ps.map (·.1)=qs.map (·.1)→RL ρ j (ps.map (·.2)) (qs.map (·.2))→
  RL ρ j cs A.toList→zK place cs ps=some l→ ∃B,Instr.fill place' A qs=some B∧RL ρ j l B.toList
 | [], qs,cs,l,A,h1,h2,h3,h=>by
  have e:qs= []:=by simpa using h1.symm
  subst e;unfold zK at h;cases h;exact ⟨A,rfl,h3⟩
 | p::ps,[],cs,l,A,h1,h2,h3,h=>by simp at h1
 | p::ps,q::qs,cs,l,A,h1,h2,h3,h=>by
  simp only [yaU,ybb] at h1;obtain ⟨hi,h1⟩:=h1;obtain ⟨v,m,heq,hv,h2⟩:=h2;simp only [yaU,ybb] at heq;obtain ⟨hq,rfl⟩:=heq;subst hq;unfold zK at h;split at h
  ·cases h
  ·rename_i off size hpl;split at h
   case h_2=>cases h
   rename_i hb hle;have hb:=aY hb;have hle:off+size≤cs.length:=yam hle;have hcl:=xh hv;have hlen:=hcl.length;have hA:=h3.length;simp only [ybc] at hlen hA;have R8:=Y3 q.2.cells.toList 0 off A (by simp;omega);have hgood:RL ρ j (eY cs off p.2.cells) (q.2.cells.toList.zipIdx.foldl (fun cs (x:Value×Nat)=>cs.setIfInBounds (off+x.2) x.1) A).toList:=by
    refine RL.AY (by rw [ybc,R8.1,Ig,hA]) fun i x hx=> ?_;have hlt:i<cs.length:=by
     rcases ybU i cs.length with h'|h'
     ·exact h'
     ·rw [yaT (by rw [Ig];exact h')] at hx;cases hx
    rw [Ny _ _ _ _ hlt] at hx;rw [ybp,R8.2];simp only [yaF,ybc];by_cases hc:off≤i∧i<off+p.2.cells.length
    ·rw [yak hc] at hx;rw [yak (by omega)];exact hcl.get _ _ hx
    ·rw [yah hc] at hx;rw [yah (by omega)];have:=h3.get i x hx;simpa using this
   obtain ⟨B,h5,h6⟩:=Ia hp h1 h2 hgood h;refine ⟨B,?_,h6⟩;unfold Instr.fill;rw [←hi,hp _ _ hpl];simp only;rw [yah]
   ·have e:(q.2.cells.zipIdx.foldl (fun cs (x:Value×Nat)=>cs.setIfInBounds (off+x.2) x.1) A)=(q.2.cells.toList.zipIdx.foldl (fun cs (x:Value×Nat)=>cs.setIfInBounds (off+x.2) x.1) A):=by
     rw [←Array.foldl_toList];simp
    rw [←e] at h5;exact h5
   ·simp;omega
theorem zm6 (hi:Inv ρ w0 j H w) (he:ER ρ j N env a) {c:Call} (ho:o.op= .call c) (h:vE P c env H=some v):LS P ρ j w a o v:=by
 cases hc:c.callee with
 | value f=>simp only [vE,hc] at h;cases h
 | invoke r n=>simp only [vE,hc] at h;cases h
 | builtin b=>
  cases b<;>simp only [vE,hc] at h<;>try (cases h;done)
  case len=>exact zpO hi he ho hc h
theorem UG (w:World): ∀ {fs:List Field} {pl:List (Nat×Nat)},Fp P fs=some pl→(fs.mapM fun f=>(do pure (f.offset,←sizeOf f.type):Sem (Nat×Nat))).run P w= .ok pl w
 | [], pl,h=>by unfold Fp at h;cases h;rfl
 | f::fs,pl,h=>by
  unfold Fp at h;split at h
  ·cases h
  ·rename_i s hs;split at h
   ·rename_i m hm;cases h;have ih:=UG w hm;simp only [ydQ,yad,run_sizeOf hs,yac,yag,ih]
   ·cases h
theorem zrz: ∀(l:List (Nat×Nat)) (i:Nat),D7 l i=l[i]?
 | [], i=>by simp [D7]
 | a::l,0=>rfl
 | a::l,i+1=>by show D7 l i=_;rw [zrz l i];simp
theorem zlD (he:ER ρ j N env a) {t:TypeId} {parts:Array (Nat×Operand)} (ho:o.op= .build t parts) (h:Qo P t parts env H=some v):LS P ρ j w a o v:=by
 have h:Kh P env t parts.toList=some v:=h;unfold Kh at h;split at h
 case h_2=>cases h
 rename_i z ps hz hps;obtain ⟨z',hz1,hz2,_⟩:=uU (ρ:=ρ) (j:=j) hz;obtain ⟨qs,hq1,hq2,hq3⟩:=NS he hps;have hparts:(parts.map fun (i,x)=>(i,a.eval x)).toList=qs:=by rw [ydy];exact hq1
 split at h
 ·rename_i fs hu;split at h
  ·rename_i pl hpl;split at h
   ·rename_i l hl;cases h;have hm:=UG w hpl;have hm2:(fs.mapM fun f=>(do pure (f.offset,←sizeOf f.type):Sem (Nat×Nat))).run P w= .ok pl.toArray w:=by
     rw [ydU,Sem.run_map,hm];rfl
    obtain ⟨B,h1,h2⟩:=Ia (place':=(pl.toArray[·]?)) (fun i x hx=>by rw [zrz] at hx;simpa using hx) hq2 hq3 (xh hz2) hl;refine ⟨.agg B,?_,_,by simp,h2⟩;simp only [execOp,ho,Instr.build,yad,hz1,yac,run_underlying hu,hm2,hparts,h1,yag]
   ·cases h
  ·cases h
 ·rename_i n e hu;split at h
  ·rename_i s hs;split at h
   ·rename_i l hl;cases h;obtain ⟨B,h1,h2⟩:=Ia (place':=fun i=>some (i*s,s)) (fun i x hx=>hx) hq2 hq3 (xh hz2) hl;refine ⟨.agg B,?_,_,by simp,h2⟩;simp only [execOp,ho,Instr.build,yad,hz1,yac,run_underlying hu,run_sizeOf hs,hparts,h1,yag]
   ·cases h
  ·cases h
 ·cases h
theorem Oh (hi:Inv ρ w0 j H w) (he:ER ρ j N env a) (h:light P o.op env H=some v):LS P ρ j w a o v:=by
 cases ho:o.op<;>rw [ho] at h
 case move=>exact U6 (H:=H) he (.inl ho) h
 case assign=>exact U6 (H:=H) he (.inr ho) h
 case pick=>exact zm4 (H:=H) he ho h
 case build=>exact zlD (H:=H) he ho h
 case load=>exact zm5 hi he ho h
 case nilCheck=>exact zhL (H:=H) he ho h
 case binOp=>exact zlE hi he ho h
 case unOp=>exact zm3 (H:=H) he ho h
 case convert=>exact zis hi he ho h
 case sliceToArrayPointer=>exact zjW (H:=H) he ho h
 case makeInterface=>exact zgN (H:=H) he ho h
 case makeFunc=>exact zhN (H:=H) he ho h
 case slice=>exact zlA hi he ho h
 case fieldAddr=>exact zgP (H:=H) he ho h
 case field=>exact zlC (H:=H) he ho h
 case indexAddr=>exact zgO (H:=H) he ho h
 case index=>exact zlB (H:=H) he ho h
 case lookup=>exact zjU hi he ho h
 case typeAssert=>exact zgd (H:=H) he ho h
 case extract=>exact zir (H:=H) he ho h
 case call=>exact zm6 hi he ho h
 all_goals cases h
end
end Go.Dw
namespace Go.Dw
section
variable {P:Program} {ρ:Val} {w0:Cx} {j:J} {H:Heap} {w:World} {N:Nat} {env:T AV} {a:Act} {o:Oper}
def AS (P:Program) (ρ:Val) (j:J) (w:World) (a:Act) (o:Oper) (nx:Nat) (v:AV) (ob:Obj):Prop:=
 ∃ u obj,(execOp a.eval o).run P w= .ok (.value u) { w with heap:=w.heap.push obj }∧zN ρ j ob obj 0∧R ρ (jV j nx ⟨w.heap.size,0,0,none⟩) v u
def Cc (nx:Nat):Obj→Prop
 | .cells _ _ g _ _ _=>g=nx
 | _=>True
theorem Oo {l:List AV} {xs:List Value} {s nx:Nat} {e:TypeId} (h:RL ρ j l xs):zN ρ j (sW l s nx) (.cells xs.toArray e (0,0)) 0:=by
 refine ⟨rfl,rfl,xs.toArray,e,rfl,?_,⟨by simp,fun hh=>by cases hh⟩,fun i hi=> ?_⟩
 ·rw [Vec.rq];simp [h.length]
 ·rw [Vec.rq] at hi;rw [Vec.xY l i hi];obtain ⟨x,h1,h2⟩:=h.get i _ (yai hi);exact ⟨x,by simpa using h1,h2⟩
theorem V3 (t:TypeId) (u:Value):(newVar t u).run P w= .ok ⟨w.heap.size,0,none⟩ { w with heap:=w.heap.push (.cells u.cells t (0,0)) }:=rfl
theorem zmg {t:TypeId} {nx:Nat} {v:AV} {ob:Obj} (ho:o.op= .alloc t) (h:FE P t nx=some (v,ob)):AS P ρ j w a o nx v ob∧Cc nx ob:=by
 unfold FE at h;split at h
 ·rename_i z s hz hs;cases h;obtain ⟨z',h1,h2,_⟩:=uU (ρ:=ρ) (j:=j) hz;refine ⟨⟨.pointer (some ⟨w.heap.size,0,none⟩),_,?_,Oo (e:=t) (xh h2),_,nP _ _ _,rfl⟩,rfl⟩;simp only [execOp,ho,Instr.alloc,yad,h1,yac,V3,yag,ycf]
 ·cases h
theorem zqb (he:ER ρ j N env a) {t:TypeId} {x:Operand} {nx:Nat} {v:AV} {ob:Obj} (ho:o.op= .box t x) (h:zS P t x env nx=some (v,ob)):AS P ρ j w a o nx v ob∧Cc nx ob:=by
 unfold zS at h;split at h
 ·rename_i u s hx hs;cases h;have h2:=bR he hx;refine ⟨⟨.pointer (some ⟨w.heap.size,0,none⟩),_,?_,Oo (e:=t) (xh h2),_,nP _ _ _,rfl⟩,rfl⟩;simp only [execOp,ho,Instr.box,yad,V3,yac,yag,ycf]
 ·cases h
theorem Ev: ∀(n:Nat) (l:List AV),(sS n l).length=n*l.length
 | 0,l=>by simp [sS]
 | n+1,l=>by unfold sS;rw [yaC,Ev n l,Nat.succ_mul];omega
theorem Nw: ∀(n:Nat) (l:List AV) (i:Nat),i<n*l.length→(sS n l)[i]? =l[i%l.length]?
 | 0,l,i,h=>by simp at h
 | n+1,l,i,h=>by
  unfold sS;by_cases hi:i<l.length
  ·rw [yaP hi,ya6 hi]
  ·rw [yaV (by omega),Nw n l (i-l.length) (by rw [Nat.succ_mul] at h;omega)];congr 1;rw [←Nat.mod_eq_sub_mod (by omega)]
theorem Ox {z:AV} {u:Value} {n i:Nat} (hz:R ρ j z u) (hi:i<n) (hpos:0<z.cells.length):
  ∃ x c,((Array.range n).map (u.cells[· %u.cells.size]!))[i]? =some x∧z.cells[i%z.cells.length]? =some c∧R ρ j c x:=by
 have hr:=xh hz;have hlen:=hr.length;rw [ybc] at hlen;have hlt:i%z.cells.length<z.cells.length:=Nat.mod_lt _ hpos;obtain ⟨x,h1,h2⟩:=hr.get _ _ (yai hlt);refine ⟨x,_,?_,yai hlt,h2⟩;rw [Array.getElem?_map,Array.getElem?_range,yak hi,yaJ];congr 1;rw [hlen];have h1:u.cells[i%z.cells.length]? =some x:=by simpa using h1
 rw [getElem!_def,h1]
theorem zxS {z:AV} {u:Value} {n:Nat} (hz:R ρ j z u):RL ρ j (sS n z.cells) ((Array.range (n*z.cells.length)).map (u.cells[· %u.cells.size]!)).toList:=by
 refine RL.AY (by simp [Ev]) fun i c hc=> ?_;have hi:i<n*z.cells.length:=by
  rcases ybU i (n*z.cells.length) with h|h
  ·exact h
  ·rw [yaT (by rw [Ev];exact h)] at hc;cases hc
 have hpos:0<z.cells.length:=by
  rcases ybB z.cells.length with h|h
  ·rw [h] at hi;simp at hi
  ·exact h
 rw [Nw n z.cells i hi] at hc;obtain ⟨x,c',h1,h2,h3⟩:=Ox (n:=n*z.cells.length) hz hi hpos;rw [h2] at hc;cases hc;exact ⟨x,by rw [ybp];exact h1,h3⟩
theorem zgn (he:ER ρ j N env a) {t:TypeId} {len nx:Nat} {parts:Array (Nat×Operand)} {v:AV} {ob:Obj} (ho:o.op= .buildSlice t len parts) (h:Bo P t len parts env nx=some (v,ob)):AS P ρ j w a o nx v ob∧Cc nx ob:=by
 unfold Bo at h;split at h
 case h_2=>cases h
 rename_i e hu;split at h
 case h_2=>cases h
 rename_i s z ps hs hz hps;split at h
 case h_2=>cases h
 rename_i hle hb;have hle:len*s≤16777216:=yam hle;have hb:=aY hb;split at h
 case h_2=>cases h
 rename_i l hl;cases h;obtain ⟨z',hz1,hz2,_⟩:=uU (ρ:=ρ) (j:=j) hz;obtain ⟨qs,hq1,hq2,hq3⟩:=NS he hps;have hparts:(parts.map fun (i,x)=>(i,a.eval x)).toList=qs:=by rw [ydy];exact hq1
 have hrep:=zxS (n:=len) hz2;rw [hb] at hrep;obtain ⟨B,h1,h2⟩:=Ia (place':=fun i=>some (i*s,s)) (fun i x hx=>hx) hq2 hq3 hrep hl;refine ⟨⟨.slice (some ⟨w.heap.size,0,none⟩) len len,.cells B e (0,0),?_,?_,_,nP _ _ _,yaa _,rfl⟩,rfl⟩
 ·simp only [execOp,ho,Instr.buildSlice,yad,run_underlying hu,yac,run_sizeOf hs];rw [yah (by omega)];by_cases h0:len*s=0
  ·have e1:((Array.range (len*s)).map ((#[]:Array Value)[· %(#[]:Array Value).size]!))=((Array.range (len*s)).map (z'.cells[· %z'.cells.size]!)):=by simp [h0]
   rw [yak h0];simp only [yad,yag,yac,e1,hparts,h1];rfl
  ·rw [yah h0];simp only [yad,yag,yac,hz1,hparts,h1];rfl
 ·have:=Oo (s:=s) (nx:=nx) (e:=e) h2;simpa using this
theorem ziu (he:ER ρ j N env a) {t:TypeId} {r:Option Operand} {nx:Nat} {v:AV} {ob:Obj} (ho:o.op= .makeMap t r) (h:BF P t r env nx=some (v,ob)):AS P ρ j w a o nx v ob∧Cc nx ob:=by
 unfold BF at h;split at h
 ·cases h;refine ⟨⟨.map (some w.heap.size),.map #[] 0,?_,⟨rfl,#[],rfl,rfl⟩,_,nP _ _ _,rfl⟩,trivial⟩;simp only [execOp,ho,Instr.makeMap,ybs,yad,run_newObj,yac,yag]
 ·split at h
  ·rename_i r' kt et n hu hn;cases h;obtain ⟨k,hk⟩:=wS he hn;refine ⟨⟨.map (some w.heap.size),.map #[] 0,?_,⟨rfl,#[],rfl,rfl⟩,_,nP _ _ _,rfl⟩,trivial⟩;simp only [execOp,ho,Instr.makeMap,yaJ,hk,yad,run_underlying hu,asInt,asIntOf,run_newObj,yac,yag]
  ·cases h
theorem zpj: ∀ {l:List AV} {u:AV},uniform l=some u→ ∀c∈l,c=u:=by
 intro l u h;unfold uniform at h;split at h
 ·cases h
 ·rename_i x l';split at h
  ·rename_i hg;cases h;have key: ∀l':List AV,uniform.go u l'=true→ ∀c∈l',c=u:=by
    intro l'
    induction l' with
    | nil=>intro _ c hc;cases hc
    | cons b l' ih=>
     intro hg c hc;unfold uniform.go at hg;split at hg
     ·rename_i hb;rcases yaj.1 hc with rfl|hc
      ·exact AV.beq_eq hb
      ·exact ih hg c hc
     ·cases hg
   intro c hc;rcases yaj.1 hc with rfl|hc
   ·rfl
   ·exact key _ hg c hc
  ·cases h
theorem zmA {z:AV} {u:Value} {c s:Nat} {r:Vec} (hz:R ρ j z u) (hs:z.cells.length=s) (h:rowOf z.cells c s=some r):
  r.n=c*s∧ ∀i,i<c*s→ ∃x,((Array.range (c*s)).map (u.cells[· %u.cells.size]!))[i]? =some x∧R ρ j (r.get i) x:=by
 subst hs;unfold rowOf at h;have hpos: ∀i,i<c*z.cells.length→0<z.cells.length:=fun i hi=>by
  rcases ybB z.cells.length with h|h
  ·rw [h] at hi;simp at hi
  ·exact h
 split at h
 ·rename_i q hq;cases h;refine ⟨rfl,fun i hi=> ?_⟩;obtain ⟨x,c',h1,h2,h3⟩:=Ox (n:=c*z.cells.length) hz hi (hpos i hi);refine ⟨x,h1,?_⟩;have:=zpj hq c' (ya8 h2);subst this;exact h3
 ·split at h
  ·cases h;refine ⟨by rw [Vec.rq,Ev],fun i hi=> ?_⟩;obtain ⟨x,c',h1,h2,h3⟩:=Ox (n:=c*z.cells.length) hz hi (hpos i hi);refine ⟨x,h1,?_⟩;have hl:i<(sS c z.cells).length:=by rw [Ev];exact hi
   rw [Vec.xY _ _ hl];have:=Nw c z.cells i hi;rw [yai hl,h2] at this;rw [yaE this];exact h3
  ·cases h
theorem zgQ (he:ER ρ j N env a) {t:TypeId} {xl xc:Operand} {nx:Nat} {v:AV} {ob:Obj} (ho:o.op= .makeSlice t xl xc) (h:Bv P t xl xc env nx=some (v,ob)):AS P ρ j w a o nx v ob∧Cc nx ob:=by
 unfold Bv at h;split at h
 case h_2=>cases h
 rename_i e l c hu hl hc;split at h
 case h_2=>cases h
 rename_i inf z jQ hz;split at h
 case h_2=>cases h
 rename_i hle hby hlt hsz;have hle:=yam hle;have hby:inf.bytes*c≤140737488355328:=yam hby;have hlt:c<4611686018427387904:=by rwa [yaD] at hlt
 have hsz:=aY hsz;split at h
 case h_2=>cases h
 rename_i r hr;cases h;obtain ⟨kl,hl⟩:=wS he hl;obtain ⟨kc,hc⟩:=wS he hc;obtain ⟨z',hz1,hz2,_⟩:=uU (ρ:=ρ) (j:=j) hz;obtain ⟨hn,hcells⟩:=zmA hz2 hsz hr;have hsize:ig P e=some inf.size:=by simp [ig,jQ]
 have wl:IntKind.i64.wrap (l:Int)=(l:Int):=Ew (by show (-(2^63):Int)≤_;omega) (by show _≤(2^63-1:Int);omega);have wc:IntKind.i64.wrap (c:Int)=(c:Int):=Ew (by show (-(2^63):Int)≤_;omega) (by show _≤(2^63-1:Int);omega);refine ⟨⟨.slice (some ⟨w.heap.size,0,none⟩) l c,.cells ((Array.range (c*inf.size)).map (z'.cells[· %z'.cells.size]!)) e (0,0),?_,?_,_,nP _ _ _,hle,rfl⟩,rfl⟩
 ·have aaB: ¬((inf.bytes:Int)*(c:Int)>2^48):=by
   have:((inf.bytes*c:Nat):Int)≤((140737488355328:Nat):Int):=Int.ofNat_le.2 hby;rw [Int.natCast_mul] at this;omega
  have aa4:(decide ((c:Int)<0)||decide ((inf.bytes:Int)*(c:Int)>2^48)||decide ((l:Int)<0)||decide ((l:Int)>(c:Int)))=false:=by
   simp only [aaB,decide_false,Bool.or_false];simp;omega
  simp only [execOp,ho,hl,hc,Instr.makeSlice,asInt,asIntOf,yad,run_underlying hu,yac,yag,typeInfo,ycx,jQ,wl,wc];rw [yah (by simpa using aa4)];simp only [yad,run_askRoom,yac,run_sizeOf hsize,yaS];by_cases h0:c*inf.size=0
  ·have e1:((Array.range (c*inf.size)).map ((#[]:Array Value)[· %(#[]:Array Value).size]!))=((Array.range (c*inf.size)).map (z'.cells[· %z'.cells.size]!)):=by simp [h0]
   rw [yak h0];simp only [yad,yag,yac,e1];rfl
  ·rw [yah h0];simp only [yad,yag,yac,hz1];rfl
 ·refine ⟨rfl,rfl,_,e,rfl,by rw [hn];simp,⟨by simp,fun hh=>by cases hh⟩,fun i hi=> ?_⟩;rw [hn] at hi;exact hcells i hi
theorem UL (he:ER ρ j N env a) {nx:Nat} {v:AV} {ob:Obj} (h:mW P o.op env nx=some (v,ob)):AS P ρ j w a o nx v ob∧Cc nx ob:=by
 cases ho:o.op<;>rw [ho] at h<;>simp only [mW] at h
 case alloc=>exact zmg ho h
 case box=>exact zqb he ho h
 case buildSlice=>exact zgn he ho h
 case makeMap=>exact ziu he ho h
 case makeSlice=>exact zgQ he ho h
 all_goals cases h
end
end Go.Dw
namespace Go.Dw
section
variable {P:Program} {ρ:Val} {w0:Cx} {j:J} {H:Heap} {w:World}
theorem Inv.drew (h:Inv ρ w0 j H w):Inv ρ w0 j H w.drew:=
 ⟨⟨h.fr.os,h.fr.out,h.fr.tape,h.fr.size,h.fr.old⟩,h.dom,h.blk,h.used,
  fun n L e=>let ⟨o,h1,h2⟩:=h.obj n L e;⟨o,h1,nV.grow (Sub.refl j) (fun _=>rfl) h2⟩,h.sep,h.sU,h.pI,h.lX,h.fz,h.pW,h.n0,h.kN,h.z0,h.z8 (Sub.refl j) (yaa _) (fun _ _ _=>rfl) (fun _ hb=>Or.inl hb)⟩
theorem Inv.fresh (h:Inv ρ w0 j H w):j H.nx=none:=by
 cases e:j H.nx with
 | none=>rfl
 | some L=>exact absurd (h.dom _ _ e) (ybe _)
theorem Inv.closed (h:Inv ρ w0 j H w) {b:Nat} {L:Loc} {v v':Vec} {aW g:Nat} {sh:Bool} (hj:j b=some L) (hm:H.m.get b=some (.cells v aW g none sh true)):
  Inv ρ w0 j ((H.upd b (.cells v aW g (some (H.nx+1)) true true)).alloc (.cells v' aW g none true true)) w∧
  St j H j ((H.upd b (.cells v aW g (some (H.nx+1)) true true)).alloc (.cells v' aW g none true true)):=by
 rw [Heap.p8,Heap.alloc_eq];have hb:=h.dom b L hj;have hal:alive H.gw g (some (H.nx+1))=true:=by
  unfold alive;simp only;cases e:H.gw.get g with
  | none=>rfl
  | some x=>simp only [yaD];have:=h.pI g x e;omega
 have gb:((H.m.set b (.cells v aW g (some (H.nx+1)) true true)).set H.nx (.cells v' aW g none true true)).get b=some (.cells v aW g (some (H.nx+1)) true true):=by
  rw [T.jw _ _ (by omega),T.get_set_same]
 have gn:((H.m.set b (.cells v aW g (some (H.nx+1)) true true)).set H.nx (.cells v' aW g none true true)).get H.nx=some (.cells v' aW g none true true):=T.get_set_same _ _ _;have go: ∀k,k≠b→k≠H.nx→((H.m.set b (.cells v aW g (some (H.nx+1)) true true)).set H.nx (.cells v' aW g none true true)).get k=H.m.get k:=fun k h1 h2=>by
  rw [T.jw _ _ h2,T.jw _ _ h1]
 have gd: ∀k Lk,j k=some Lk→k≠b→((H.m.set b (.cells v aW g (some (H.nx+1)) true true)).set H.nx (.cells v' aW g none true true)).get k=H.m.get k:=fun k Lk e h1=>
  go k h1 (by have:=h.dom k Lk e;omega)
 refine ⟨⟨h.fr,fun n L e=>ydo (h.dom n L e),h.blk,fun k o e=> ?_,fun k Lk e=> ?_,fun k m Lk Lm hkm e1 e2 q1 q2 hbk=> ?_,fun k v2 e g2 t pY ow he=> ?_,fun g2 x e=>ycT (h.pI g2 x e),fun k Lk v2 e2 g2 c pY e1 e3=> ?_,h.fz,fun k Lk v2 e2 c pY e1 e3=> ?_,h.n0,yds _,fun o e=> ?_,?_⟩,
  Sub.refl j,(fun k L e e'=>by rw [e] at e';cases e'),fun k _ e hk=>⟨go k (fun hh=>by subst hh;rw [hj] at e;cases e) (by omega),rfl⟩,Nat.le_succ _⟩
 ·show k<H.nx+1;by_cases h1:k=H.nx
  ·omega
  ·by_cases h2:k=b
   ·omega
   ·have e:((H.m.set b (.cells v aW g (some (H.nx+1)) true true)).set H.nx (.cells v' aW g none true true)).get k=some o:=e;rw [go k h2 h1] at e;have:=h.used k o e;omega
 ·by_cases h2:k=b
  ·subst h2;rw [hj] at e;cases e;obtain ⟨o,h3,h4⟩:=h.obj k L hj;rw [hm] at h3;cases h3;exact ⟨_,gb,h4.1,h4.2.1,fun _=>h4.2.2 rfl⟩
  ·obtain ⟨o,h3,h4⟩:=h.obj k Lk e;exact ⟨o,by rw [show _=_ from gd k Lk e h2];exact h3,h4⟩
 ·by_cases hk:k=b
  ·subst hk;rw [hj] at e1;cases e1;obtain ⟨vn,en,F6,cn,sn,on,vm,em,gm,cm,sm,om,h3,h4,h5,h6⟩:=h.sep k m L Lm hkm hj e2 q1 q2 hbk;rw [hm] at h3;cases h3;exact ⟨_,_,_,_,_,_,vm,em,gm,cm,sm,om,gb,by rw [show _=_ from gd m Lm e2 (fun hh=>hkm hh.symm)];exact h4,h5,fun ho=>⟨(h6 ho).1,fun _ _ hc=>by cases hc⟩⟩
  ·by_cases hmb:m=b
   ·subst hmb;rw [hj] at e2;cases e2;obtain ⟨vn,en,F6,cn,sn,on,vm,em,gm,cm,sm,om,h3,h4,h5,h6⟩:=h.sep m k L Lk (fun hh=>hkm hh.symm) hj e1 q2 q1 hbk.symm;rw [hm] at h3;cases h3;refine ⟨vm,em,gm,cm,sm,om,_,_,_,_,_,_,by rw [show _=_ from gd k Lk e1 hk];exact h4,gb,h5.symm,fun ho=> ?_⟩;subst ho;refine ⟨(h6 rfl).1.symm,fun a1 _ hc=> ?_⟩;exact absurd hc ((h6 rfl).2 rfl a1 rfl).2.1
   ·obtain ⟨vn,en,F6,cn,sn,on,vm,em,gm,cm,sm,om,h3,h4,h5⟩:=h.sep k m Lk Lm hkm e1 e2 q1 q2 hbk;exact ⟨vn,en,F6,cn,sn,on,vm,em,gm,cm,sm,om,by rw [show _=_ from gd k Lk e1 hk];exact h3,by rw [show _=_ from gd m Lm e2 hmb];exact h4,h5⟩
 ·show t≤H.nx+1;have he:((H.m.set b (.cells v aW g (some (H.nx+1)) true true)).set H.nx (.cells v' aW g none true true)).get k=some (.cells v2 e g2 (some t) pY ow):=he;by_cases h1:k=H.nx
  ·subst h1;rw [gn] at he;cases he
  ·by_cases h2:k=b
   ·subst h2;rw [gb] at he;cases he;exact yaa _
   ·rw [go k h2 h1] at he;have:=h.sU k v2 e g2 t pY ow he;omega
 ·have e3:((H.m.set b (.cells v aW g (some (H.nx+1)) true true)).set H.nx (.cells v' aW g none true true)).get k=some (.cells v2 e2 g2 c pY true):=e3;by_cases h2:k=b
  ·subst h2;rw [gb] at e3;cases e3;exact h.lX k Lk _ _ _ _ _ e1 hm
  ·rw [gd k Lk e1 h2] at e3;exact h.lX k Lk v2 e2 g2 c pY e1 e3
 ·by_cases h2:k=b
  ·subst h2;rw [hj] at e1;cases e1;have e3:((H.m.set k (.cells v aW g (some (H.nx+1)) true true)).set H.nx (.cells v' aW g none true true)).get k=some (.cells v2 e2 k c pY true):=e3;rw [gb] at e3;cases e3;exact h.pW _ L _ _ _ _ hj hm
  ·have e3:((H.m.set b (.cells v aW g (some (H.nx+1)) true true)).set H.nx (.cells v' aW g none true true)).get k=some (.cells v2 e2 k c pY true):=e3;rw [gd k Lk e1 h2] at e3;exact h.pW k Lk _ _ _ _ e1 e3
 ·have e:((H.m.set b (.cells v aW g (some (H.nx+1)) true true)).set H.nx (.cells v' aW g none true true)).get 0=some o:=e;rw [go 0 (ycW (h.yN hj)) (by have:=h.kN;omega)] at e;exact h.z0 o e
 ·have e:Heap.gs ⟨(H.m.set b (.cells v aW g (some (H.nx+1)) true true)).set H.nx (.cells v' aW g none true true),H.nx+1,H.gw⟩=H.gs:=by
   unfold Heap.gs;rw [show ((H.m.set b (.cells v aW g (some (H.nx+1)) true true)).set H.nx (.cells v' aW g none true true)).get 0=H.m.get 0 from go 0 (ycW (h.yN hj)) (by have:=h.kN;omega)]
  rw [e];exact h.nY
theorem Inv.over (h:Inv ρ w0 j H w) {b off m' k n:Nat} {L:Loc} {v v':Vec} {aW g:Nat} {sh:Bool} {new:List AV} {vs:List Value} (hj:j b=some L) (hm:H.m.get b=some (.cells v aW g none sh true))
  (hoff:off=k*aW) (hlen:off+m'=v.n) (hk:k≤L.cap) (hcap:off+m'+new.length≤L.cap*aW) (hc:zf new=true) (hr:RL ρ j new vs) (hn':v'.n=m'+new.length)
  (hold: ∀i,i<m'→v'.get i=v.get (off+i)) (hnew: ∀i (hi:i<new.length),v'.get (m'+i)=new[i]) (P:Program) (hn:n=H.nx):
  ∃ w',(storeCells ⟨L.blk,L.off+off+m',none⟩ vs).run P w= .ok () w'∧
   Inv ρ w0 (jV j n ⟨L.blk,L.off+off,L.cap-k,none⟩) ((H.upd b (.cells v aW g (some (H.nx+1)) true true)).alloc (.cells v' aW g none true true)) w':=by
 subst hn;have hcl:=(h.closed hj hm (v':=v')).1;obtain ⟨o,h1,h2⟩:=h.obj b L hj;rw [hm] at h1;cases h1;obtain ⟨Ad,hbase,hcont⟩:=h2;rw [yak rfl] at hbase;obtain ⟨arr,e,fr,hb,hs1,hs2,hcells⟩:=hcont rfl;have hfr:=h.fz _ _ hj Ad hbase _ _ _ hb;subst hfr;have ab3:=hr.length;have hs3:=hs2.1;have hrun:=ydA (P:=P) L.blk (L.off+off+m') e vs 0 arr w hb (by omega) (O4 hr hc);refine ⟨_,hrun,?_⟩;generalize CZ:(arr.toList.take (L.off+off+m'+0)++vs++arr.toList.drop (L.off+off+m'+0+vs.length)).toArray=arr';have hsz:arr'.size=arr.size:=by rw [←CZ];simp;omega
 have hget: ∀i,arr'[i]? =if L.off+off+m'≤i∧i<L.off+off+m'+vs.length then vs[i-(L.off+off+m')]? else arr[i]? :=fun i=>by
  rw [←CZ];simp only [yaF,yay];by_cases hi:i<L.off+off+m'
  ·rw [yah (by omega),ybT,yaP (by simp;omega),ybD hi];simp
  ·by_cases hi2:i<L.off+off+m'+vs.length
   ·rw [yak (by omega),ybT,yaV (by simp;omega),yaP (by simp;omega)];congr 1;simp;omega
   ·rw [yah (by omega),yaV (by simp;omega),ybN];simp only [yaC,ya1,ybc,ybp];congr 1;omega
 have hset:=setRow_heap w L.blk arr arr' e (0,0) hb;have hoth: ∀i,i≠L.blk→(w.setRow L.blk arr').heap[i]? =w.heap[i]? :=fun i hi=>setRow_other w L.blk i arr' hi;have hfresh:=h.fresh;have hsub:=uY (L:=⟨L.blk,L.off+off,L.cap-k,none⟩) hfresh;have hback: ∀q Lq,jV j H.nx ⟨L.blk,L.off+off,L.cap-k,none⟩ q=some Lq→(q=H.nx∧Lq=⟨L.blk,L.off+off,L.cap-k,none⟩)∨(q≠H.nx∧j q=some Lq):=fun q Lq e=>by
  by_cases hq:q=H.nx
  ·subst hq;rw [nP] at e;exact .inl ⟨rfl,(yaE e).symm⟩
  ·rw [nO _ _ hq] at e;exact .inr ⟨hq,e⟩
 have yE:((H.upd b (.cells v aW g (some (H.nx+1)) true true)).alloc (.cells v' aW g none true true)).m.get H.nx=some (.cells v' aW g none true true):=by
  rw [Heap.alloc_eq,Heap.p8];exact T.get_set_same _ _ _
 have Lx:((H.upd b (.cells v aW g (some (H.nx+1)) true true)).alloc (.cells v' aW g none true true)).m.get b=some (.cells v aW g (some (H.nx+1)) true true):=by
  rw [Heap.alloc_eq,Heap.p8];show ((H.m.set b _).set H.nx _).get b=_;rw [T.jw _ _ (by have:=h.dom b L hj;omega),T.get_set_same]
 have Ma: ∀q Lq,j q=some Lq→q≠b→((H.upd b (.cells v aW g (some (H.nx+1)) true true)).alloc (.cells v' aW g none true true)).m.get q=H.m.get q:=fun q Lq eq hq=>by
  rw [Heap.alloc_eq,Heap.p8];show ((H.m.set b _).set H.nx _).get q=_;rw [T.jw _ _ (by have:=h.dom q Lq eq;omega),T.jw _ _ hq]
 have hgw:((H.upd b (.cells v aW g (some (H.nx+1)) true true)).alloc (.cells v' aW g none true true)).gw=H.gw:=by rw [Heap.alloc_eq,Heap.p8]
 have hnx:((H.upd b (.cells v aW g (some (H.nx+1)) true true)).alloc (.cells v' aW g none true true)).nx=H.nx+1:=by rw [Heap.alloc_eq,Heap.p8]
 have hsame: ∀m Lm,m≠b→j m=some Lm→Lm.q=none→Lm.blk=L.blk→ ∃vm em cm sm,H.m.get m=some (.cells vm em g cm sm true)∧(alive H.gw g cm=true→cm≠none∧Lm.off+vm.n≤L.off+v.n):=fun m Lm hmb em hq' hbk=>by
  obtain ⟨vn,en,F6,cn,sn,on,vm,KU,gm,cm,sm,om,h3,h4,h5,h6⟩:=h.sep b m L Lm (fun hh=>hmb hh.symm) hj em Ad hq' hbk.symm;rw [hm] at h3;cases h3;subst h5;obtain ⟨rfl,h7⟩:=h6 rfl;exact ⟨vm,KU,cm,sm,h4,fun ha=>(h7 rfl ha rfl).2⟩
 refine ⟨h.fr.then (by simp) (by simp) rfl (by simp) (fun i _ ho=>hoth i (fun e=>ho (e▸hbase))),fun q Lq e=> ?_,fun q Lq e qq=> ?_,hcl.used,fun q Lq eq=> ?_,fun q m Lq Lm hqm e1 e2 q1 q2 hbk=> ?_,hcl.sU,hcl.pI,fun q Lq v2 e2 g2 c pY e1 e3=> ?_,fun q Lq hjq hqq hi c e' fr he=> ?_,fun q Lq v2 e2 c pY e1 e3=> ?_,?_,hcl.kN,hcl.z0,?_⟩
 ·rcases hback q Lq e with ⟨rfl,_⟩|⟨_,e⟩
  ·rw [hnx];omega
  ·exact hcl.dom q Lq e
 ·rw [setRow_size];rcases hback q Lq e with ⟨_,rfl⟩|⟨_,e⟩
  ·exact h.blk b L hj Ad
  ·exact h.blk q Lq e qq
 ·rcases hback q Lq eq with ⟨rfl,rfl⟩|⟨_,eq⟩
  ·refine ⟨_,yE,rfl,by rw [yak rfl];exact hbase,fun _=>⟨arr',e,(0,0),hset,?_,?_,fun i hi=> ?_⟩⟩
   ·show L.off+off+v'.n≤_;rw [hsz,hn'];omega
   ·have hkm:k*aW≤L.cap*aW:=ya9 _ hk;have hs3:=hs2.1;refine ⟨?_,fun _=> ?_⟩
    ·show L.off+off+(L.cap-k)*aW≤_;rw [hsz,hoff,Nat.sub_mul];omega
    ·show v'.n≤(L.cap-k)*aW;rw [hn',Nat.sub_mul];omega
   ·show∃x,arr'[L.off+off+i]? =some x∧R ρ _ (v'.get i) x;rw [hget];by_cases him:i<m'
    ·rw [yah (by omega),hold i him];obtain ⟨x,h3,h4⟩:=hcells (off+i) (by omega);exact ⟨x,by rw [←h3];congr 1;omega,h4.mono hsub⟩
    ·rw [yak (by omega)];obtain ⟨x,h3,h4⟩:=hr.get (i-m') _ (yai (by omega));refine ⟨x,by rw [←h3];congr 1;omega,?_⟩;have:=hnew (i-m') (by omega);rw [show m'+(i-m')=i by omega] at this;rw [this];exact h4.mono hsub
  ·by_cases yF:q=b
   ·subst yF;rw [hj] at eq;cases eq;refine ⟨_,Lx,Ad,by rw [yak rfl];exact hbase,fun _=>⟨arr',e,(0,0),hset,by rw [hsz];exact hs1,by rw [hsz];exact hs2,fun i hi=> ?_⟩⟩;rw [hget,yah (by omega)];obtain ⟨x,h3,h4⟩:=hcells i hi;exact ⟨x,h3,h4.mono hsub⟩
   ·obtain ⟨o',h3,h4⟩:=h.obj q Lq eq;refine ⟨o',by rw [Ma q Lq eq yF];exact h3,?_⟩;rw [hgw];by_cases hqq:Lq.q=none
    case neg=>
     cases o' with
     | opq=>exact h4
     | gs=>exact h4.elim
     | _=>exact absurd h4.1 hqq
    by_cases hbk:Lq.blk=L.blk
    ·obtain ⟨vm,em,cm,sm,h5,h6⟩:=hsame q Lq yF eq hqq hbk;rw [h3] at h5;cases h5;refine ⟨h4.1,h4.2.1,fun ha=> ?_⟩;obtain ⟨_,hext⟩:=h6 ha;obtain ⟨abF,e2,fr2,h7,h8,h9,h10⟩:=h4.2.2 ha;rw [hbk,hb] at h7;cases h7;refine ⟨arr',e,(0,0),by rw [hbk];exact hset,by rw [hsz];exact h8,by rw [hsz];exact h9,fun i hi=> ?_⟩;rw [hget,yah (by omega)];obtain ⟨x,h11,h12⟩:=h10 i hi;exact ⟨x,h11,h12.mono hsub⟩
    ·exact nV.grow hsub (fun _=>hoth _ hbk) h4
 ·rcases hback q Lq e1 with ⟨rfl,rfl⟩|⟨hq,e1⟩<;>rcases hback m Lm e2 with ⟨rfl,rfl⟩|⟨hmm,e2⟩
  ·exact absurd rfl hqm
  ·by_cases hmb:m=b
   ·subst hmb;rw [hj] at e2;cases e2;refine ⟨_,_,_,_,_,_,_,_,_,_,_,_,yE,Lx,rfl,fun _=>⟨rfl,fun _ _ _=>⟨rfl,by simp,?_⟩⟩⟩;show L.off+v.n≤L.off+off+v'.n;omega
   ·obtain ⟨vm,em,cm,sm,h5,h6⟩:=hsame m Lm hmb e2 q2 hbk.symm;refine ⟨_,_,_,_,_,_,vm,em,g,cm,sm,true,yE,by rw [Ma m Lm e2 hmb];exact h5,rfl,fun _=>⟨rfl,fun _ ha _=> ?_⟩⟩;rw [hgw] at ha;obtain ⟨h7,h8⟩:=h6 ha;refine ⟨rfl,h7,?_⟩;show Lm.off+vm.n≤L.off+off+v'.n;omega
  ·by_cases yF:q=b
   ·subst yF;refine ⟨_,_,_,_,_,_,_,_,_,_,_,_,Lx,yE,rfl,fun _=>⟨rfl,fun _ _ hc=>by cases hc⟩⟩
   ·obtain ⟨vm,em,cm,sm,h5,h6⟩:=hsame q Lq yF e1 q1 hbk;refine ⟨vm,em,g,cm,sm,true,_,_,_,_,_,_,by rw [Ma q Lq e1 yF];exact h5,yE,rfl,fun _=>⟨rfl,fun ha _ hc=> ?_⟩⟩;rw [hgw] at ha;exact absurd hc (h6 ha).1
  ·exact hcl.sep q m Lq Lm hqm e1 e2 q1 q2 hbk
 ·rcases hback q Lq e1 with ⟨rfl,rfl⟩|⟨_,e1⟩
  ·rw [yE] at e3;cases e3;obtain ⟨Lg,qH⟩:=h.lX b L v aW g none sh hj hm;exact ⟨Lg,hsub _ _ qH⟩
  ·obtain ⟨Lg,qH⟩:=hcl.lX q Lq v2 e2 g2 c pY e1 e3;exact ⟨Lg,hsub _ _ qH⟩
 ·by_cases hi2:Lq.blk=L.blk
  ·rw [hi2] at he;rw [hset] at he;cases he;rfl
  ·rw [hoth _ hi2] at he;rcases hback q Lq hjq with ⟨_,rfl⟩|⟨_,hjq⟩
   ·exact absurd rfl hi2
   ·exact h.fz q Lq hjq hqq hi c e' fr he
 ·rcases hback q Lq e1 with ⟨rfl,rfl⟩|⟨_,e1⟩
  ·rw [yE] at e3;cases e3;obtain ⟨Lg,qH⟩:=h.lX b L v aW H.nx none sh hj hm;exact absurd (h.dom _ _ qH) (ybe _)
  ·exact hcl.pW q Lq v2 e2 c pY e1 e3
 ·rw [nO _ _ (by have:=h.kN;omega)];exact h.n0
 ·refine hcl.z8 hsub (by simp) (fun x _ hx=>hoth x (fun e=>hx ⟨b,L,hj,Ad,e.symm⟩)) (fun x hx=> ?_);obtain ⟨q,Lq,e,qq,rfl⟩:=hx;rcases hback q Lq e with ⟨_,rfl⟩|⟨_,e⟩
  ·exact Or.inl ⟨b,L,hj,Ad,rfl⟩
  ·exact Or.inl ⟨q,Lq,e,qq,rfl⟩
end
end Go.Dw
namespace Go.Dw
def Post (ρ:Val) (w0:Cx) (j:J) (H:Heap) (k:K) (u:Value) (w':World):Prop:=
 ∃ v H' j',R ρ j' v u∧Inv ρ w0 j' H' w'∧St j H j' H'∧Ob.den ρ (k v H')
def iD (P:Program) (ρ:Val) (w0:Cx) (j:J) (H:Heap) (w:World) (a:Act) (o:Oper) (k:K) (Q:Exit→Act→World→Prop):Prop:=
 o.wp P a w (fun a' w'=> ∃u,a'=a.put o.dst u∧Post ρ w0 j H k u w') Q
section
variable {P:Program} {ρ:Val} {w0:Cx} {j:J} {H:Heap} {w:World} {N:Nat} {env:T AV} {a:Act} {o:Oper} {k:K} {Q:Exit→Act→World→Prop}
theorem iD.value {u:Value} {w':World} (h:(execOp a.eval o).run P w= .ok (.value u) w') (hp:Post ρ w0 j H k u w'):iD P ρ w0 j H w a o k Q:=by
 unfold iD Oper.wp;rw [h];exact ⟨u,rfl,hp⟩
theorem iD.skip {w':World} (h:(execOp a.eval o).run P w= .ok .skip w') (hp:Post ρ w0 j H k undef w'):iD P ρ w0 j H w a o k Q:=by
 unfold iD Oper.wp;rw [h];exact ⟨undef,rfl,hp⟩
theorem zug (hi:Inv ρ w0 j H w) (he:ER ρ j N env a) (h:Ob.den ρ (ML o H k (light P o.op env H))):iD P ρ w0 j H w a o k Q:=by
 cases hl:light P o.op env H with
 | none=>rw [hl] at h;exact h.elim
 | some v=>
  rw [hl] at h;obtain ⟨u,h1,h2⟩:=Oh hi he hl;exact .value h1 ⟨v,H,j,h2,hi,St.refl j H,h⟩
theorem zuW (hi:Inv ρ w0 j H w) (he:ER ρ j N env a) (h:Ob.den ρ (MK o H k (mW P o.op env H.nx))):iD P ρ w0 j H w a o k Q:=by
 cases hl:mW P o.op env H.nx with
 | none=>rw [hl] at h;exact h.elim
 | some q=>
  obtain ⟨v,ob⟩:=q;rw [hl] at h;obtain ⟨⟨u,obj,h1,h2,h3⟩,h4⟩:=UL (P:=P) (w:=w) he hl;obtain ⟨h5,h6⟩:=hi.alloc (o:=ob) (ob:=obj) (c:=0) h2 (fun v e g cl sh oD=>by subst oD;exact .inl h4);exact .value h1 ⟨v,_,_,h3,h5,h6,h⟩
theorem zs4 (hi:Inv ρ w0 j H w) (he:ER ρ j N env a) {t:TypeId} {xa xv:Operand} (ho:o.op= .store t xa xv) (h:Ob.den ρ (J9 P t xa xv env H k)):iD P ρ w0 j H w a o k Q:=by
 unfold J9 at h;split at h
 case h_2=>exact h.elim
 rename_i n off x hx hv;obtain ⟨L,hj,hu⟩:=bR he hx;have hr:=xh (bR he hv);unfold zu4 at h;split at h
 case h_2=>exact h.elim
 rename_i s hs;split at h
 case h_2=>exact h.elim
 rename_i hb;have hb:=aY hb;cases hst:H.store n off x.cells with
 | none=>rw [hst] at h;exact h.elim
 | some H'=>
  rw [hst] at h;obtain ⟨w',h1,h2,h3⟩:=hi.store hst hj hr P;have hsz:(a.eval xv).cells.size=s:=by
   have:=hr.length;rw [ybc] at this;omega
  refine .skip (w':=w') ?_ ⟨jb,H',j,rJ,h2,h3,h⟩;simp only [execOp,ho,hu,Instr.storeAt,Instr.sureAddr,storeVar,yad,yag,yac,run_sizeOf hs];rw [yah (by omega),h1];rfl
theorem X5 {kd:TypeDesc} {q:AV} {u u':Value} (hk:isKey kd q=true) (h:R ρ j q u) (h':R ρ j q u'):u=u'∧Instr.sameBits 10000 u u=true:=by
 unfold isKey at hk;split at hk
 ·split at hk
  ·simp only [R] at h h';subst h h';exact ⟨rfl,by simp [Instr.sameBits]⟩
  ·cases hk
 ·split at hk
  ·obtain ⟨g,rfl⟩:=h;obtain ⟨_,rfl⟩:=h';exact ⟨rfl,by simp only [Instr.sameBits,bytes_beq g g,NQ]⟩
  ·cases hk
 ·cases hk
theorem Pw: ∀(l:List ME) (i:Nat),AR l i=l[i]?
 | [], i=>by simp [AR]
 | a::l,0=>rfl
 | a::l,i+1=>by show AR l i=_;rw [Pw l i];simp
theorem zvx: ∀ {es:List ME} {xs:List MapEntry} {i:Nat} {e:ME} (f:MapEntry→MapEntry),RM ρ j es xs→(∀x,xs[i]? =some x→R ρ j e.key (f x).key∧R ρ j e.val (f x).val∧(f x).born=e.born)→RM ρ j (Fu es i e) (xs.modify i f)
 | [], xs,i,e,f,h,_=>by have e:xs= []:=h;subst e;simp [Fu,RM]
 | a::es,_,0,e,f,h,hf=>by
  obtain ⟨x,xs,rfl,h1,h2,h3,h4⟩:=h;obtain ⟨g1,g2,g3⟩:=hf x rfl;exact ⟨f x,xs,by simp [yc3],g1,g2,g3,h4⟩
 | a::es,_,i+1,e,f,h,hf=>by
  obtain ⟨x,xs,rfl,h1,h2,h3,h4⟩:=h;have ih:=zvx f h4 (i:=i) (e:=e) (fun y hy=>hf y (by simpa using hy));exact ⟨x,xs.modify i f,by simp [yc3],h1,h2,h3,ih⟩
theorem P9: ∀ {es:List ME} {xs:List MapEntry} {e:ME} {x:MapEntry},RM ρ j es xs→R ρ j e.key x.key→R ρ j e.val x.val→x.born=e.born→RM ρ j (es++ [e]) (xs++ [x])
 | [], xs,e,x,h,h1,h2,h3=>by have e:xs= []:=h;subst e;exact ⟨x,[],rfl,h1,h2,h3,rfl⟩
 | a::es,_,e,x,h,h1,h2,h3=>by
  obtain ⟨y,xs,rfl,g1,g2,g3,g4⟩:=h;exact ⟨y,_,rfl,g1,g2,g3,P9 g4 h1 h2 h3⟩
theorem zsQ: ∀ {es:List ME} {xs:List MapEntry} {i:Nat},RM ρ j es xs→RM ρ j (BU es i) (xs.eraseIdx i)
 | [], xs,i,h=>by have e:xs= []:=h;subst e;simp [BU,RM]
 | a::es,_,0,h=>by obtain ⟨x,xs,rfl,h1,h2,h3,h4⟩:=h;simpa [BU] using h4
 | a::es,_,i+1,h=>by
  obtain ⟨x,xs,rfl,h1,h2,h3,h4⟩:=h;exact ⟨x,xs.eraseIdx i,by simp,h1,h2,h3,zsQ h4⟩
theorem Qa: ∀ {es:List ME} {xs:List MapEntry} {i:Nat} {e:ME} {x:MapEntry},RM ρ j es xs→es[i]? =some e→xs[i]? =some x→x.born=e.born
 | [], _,i,e,x,_,h,_=>by simp at h
 | a::es,_,0,e,x,hr,h,h'=>by obtain ⟨y,ys,rfl,_,_,b3,_⟩:=hr;simp at h h';subst h h';exact b3
 | a::es,_,i+1,e,x,hr,h,h'=>by obtain ⟨y,ys,rfl,_,_,_,b4⟩:=hr;exact Qa b4 (by simpa using h) (by simpa using h')
theorem Zw (D D':Int→Option Value) (m1:List (Int×Option Value)) (x:Int) (o:Option Value) (h: ∀n,D' n=uJ D m1 n) (n:Int):(if n=x then o else D' n)=uJ D ((x,o)::m1) n:=by
 unfold uJ;by_cases hn:n=x
 ·rw [yak hn,yak hn]
 ·rw [yah hn,yah hn,h]
theorem Pb {q:AV} (h:Cm q=true) {u:Value} (hq:R ρ j q u): ∃x,u= .int .i64 x:=by
 unfold Cm at h;split at h
 ·exact ⟨_,hq⟩
 ·cases h
theorem Xu {arr:Array MapEntry} {clock:Nat} (h:pq arr clock) (k v:Value):pq (arr.push { key:=k,val:=v,born:=clock }) (clock+1):=by
 refine ⟨fun e he=> ?_,?_⟩
 ·rw [ybg,ya2] at he;rcases he with he|he
  ·exact ydo (h.1 e he)
  ·rw [yaI] at he;subst he;exact ydw _
 ·rw [ybg,ybA];refine List.nodup_append.2 ⟨h.2,by simp,fun a ha b hb=> ?_⟩;simp only [yaU,ybM,yaI] at hb;subst hb;obtain ⟨x,hx,rfl⟩:=yaY.1 ha;exact Nat.ne_of_lt (h.1 x hx)
theorem V8 {arr:Array MapEntry} {clock:Nat} (h:pq arr clock) (p:Nat) (f:MapEntry→MapEntry) (hf: ∀e,(f e).born=e.born):pq (arr.modify p f) clock:=by
 refine ⟨fun e he=> ?_,?_⟩
 ·rw [ybJ] at he;obtain ⟨i,hi⟩:=yc8.1 he;rw [ED] at hi;split at hi
  ·rw [yb3] at hi;obtain ⟨y,hy,rfl⟩:=hi;rw [hf];exact h.1 y (ya8 hy)
  ·exact h.1 e (ya8 hi)
 ·have:(arr.modify p f).toList.map (·.born)=arr.toList.map (·.born):=by
   refine ycU fun i=> ?_;rw [ybJ,ybf,ybf,ED];split
   ·cases arr.toList[i]? with
    | none=>rfl
    | some y=>simp [hf]
   ·rfl
  rw [this];exact h.2
theorem zp5 {arr:Array MapEntry} {clock:Nat} (h:pq arr clock) (p:Nat):pq (arr.eraseIdxIfInBounds p) clock:=by
 have hs:(arr.eraseIdxIfInBounds p).toList.Sublist arr.toList:=by
  unfold Array.eraseIdxIfInBounds;split
  ·rw [Array.toList_eraseIdx];exact List.eraseIdx_sublist _ _
  ·exact List.Sublist.refl _
 exact ⟨fun e he=>h.1 e (hs.subset he),(hs.map _).nodup h.2⟩
theorem Inv.Tt (hi:Inv ρ w0 j H w) {n:Nat} {L:Loc} {kn log DN DY:List (AV×Option AV)} (hj:j n=some L) (hmx:H.m.get n=some (.dw kn log))
  {arr arr':Array MapEntry} {clock c':Nat} (hb:w.heap[L.blk]? =some (.map arr clock)) (hw:mE arr'∧pq arr' c'∧ ∀e∈DN,pF ρ j arr' e) {m0':List (Int×Option Value)} (hk:RX ρ j (tH DN) m0') (h8': ∀x o,(x,o)∈m0'→eF arr' x=o)
  (h9': ∀gq m1,RX ρ j log m1→(∀n,eF arr n=uJ (eF gq) m1 n)→ ∃GZ,RX ρ j DY GZ∧ ∀n,eF arr' n=uJ (eF gq) GZ n) (P:Program):
  ∃ w',(Go.setObj L.blk (.map arr' c')).run P w= .ok () w'∧Inv ρ w0 j (H.upd n (.dw DN DY)) w'∧St j H j (H.upd n (.dw DN DY)):=by
 obtain ⟨ob,h1,h2⟩:=hi.obj n L hj;rw [hmx] at h1;cases h1;obtain ⟨g1,g2,g3,abE,clock1,gq,kG,m0,m1,h3,h4,h5,h6,h7,h8,h9⟩:=h2;rw [hb] at h3;cases h3;obtain ⟨GZ,q1,q2⟩:=h9' gq m1 h7 h9;exact ⟨_,run_setObj_map P hb rfl,hi.setObj hj hmx rfl rfl rfl fun w' e=>⟨g1,g2,g3,arr',c',gq,kG,m0',GZ,e,h4,hw,hk,q1,h8',q2⟩⟩
theorem Inv.dw (hi:Inv ρ w0 j H w) {n:Nat} {L:Loc} {kn log:List (AV×Option AV)} (hj:j n=some L) (hmx:H.m.get n=some (.dw kn log)) {q:AV} {x:Int} (hq:R ρ j q (.int .i64 x)) {o:Option AV} {ov:Option Value} (ho:RO ρ j o ov)
  {arr arr':Array MapEntry} {clock c':Nat} (hb:w.heap[L.blk]? =some (.map arr clock)) (hw:mE arr') (hbn:pq arr' c') (hv: ∀m,eF arr' m=if m=x then ov else eF arr m) (P:Program):
  ∃ w',(Go.setObj L.blk (.map arr' c')).run P w= .ok () w'∧Inv ρ w0 j (H.upd n (.dw [(q,o)] ((q,o)::log))) w'∧St j H j (H.upd n (.dw [(q,o)] ((q,o)::log))):=by
 have hx:RX ρ j [(q,o)] [(x,ov)]:=⟨x,ov,[],rfl,hq,ho,rfl⟩;obtain ⟨e1,e2⟩:=Ov hx;exact hi.Tt (DY:=(q,o)::log) hj hmx hb ⟨hw,hbn,e2 _⟩ (by rw [e1];exact hx) (fun y o' hy=>by rw [yaI] at hy;cases hy;rw [hv,yak rfl]) (fun gq m1 h7 h9=>⟨(x,ov)::m1,⟨x,ov,m1,rfl,hq,ho,h7⟩,fun m=>by rw [hv];exact Zw _ _ _ _ _ h9 m⟩) P
theorem zmY (hi:Inv ρ w0 j H w) {t kt et:TypeId} {kd:TypeDesc} (hu:P.underlying t=some (.map kt et)) (hkt:P.underlying kt=some kd) (hkd:(∃k,kd= .int k)∨kd= .string) {n:Nat} {q x:AV} {um uq ux:Value} {H':Heap} (hm:R ρ j (.map n) um) (hq:R ρ j q uq) (hx:R ρ j x ux) (h:PD H kd n q x=some H'):
  ∃ w',(Instr.mapUpdate t um uq ux).run P w= .ok () w'∧Inv ρ w0 j H' w'∧St j H j H':=by
 unfold PD at h;split at h
 case h_2=>cases h
 rename_i kk;split at h
 case h_2=>cases h
 rename_i kn log hk hmx;cases h;obtain ⟨y,rfl⟩:=Pb hk hq;obtain ⟨L,hj,rfl⟩:=hm;obtain ⟨ob,h1,h2⟩:=hi.obj n L hj;rw [qi hmx] at h1;cases h1;obtain ⟨g1,g2,g3,arr,clock,gq,kG,m0,m1,h3,h4,⟨h5,hbn,_⟩,h6,h7,h8,h9⟩:=h2;rcases Bh (kk:=kk) (n:=y) arr.toList 0 h5.keys with ⟨e1,e2⟩|⟨p,e,e1,e2,e3⟩
 ·obtain ⟨k1,k2⟩:=ZY (v:=ux) (c:=clock) h5 e2;obtain ⟨w',f1,f2,f3⟩:=hi.dw hj (qi hmx) hq (o:=some x) (ov:=some ux) ⟨ux,rfl,hx⟩ h3 (c':=clock+1) k1 (Xu hbn _ _) k2 P;refine ⟨w',?_,f2,f3⟩;unfold Instr.mapUpdate;simp only [yad,run_underlying hu,yac,run_getObj_map P h3,run_checkKey hkt hkd,run_findKey hkt e1];exact f1
 ·obtain ⟨k1,k2⟩:=Xj (v:=ux) h5 e2 e3;obtain ⟨w',f1,f2,f3⟩:=hi.dw hj (qi hmx) hq (o:=some x) (ov:=some ux) ⟨ux,rfl,hx⟩ h3 (c':=clock) k1 (V8 hbn _ _ fun _=>rfl) k2 P;refine ⟨w',?_,f2,f3⟩;rw [yaf] at e1;unfold Instr.mapUpdate;simp only [yad,run_underlying hu,yac,run_getObj_map P h3,run_checkKey hkt hkd,run_findKey hkt e1];have hks:(Instr.keyThatStays (((arr[p]?).map (·.key)).getD (.int .i64 y)) (.int .i64 y)).run P w= .ok (.int .i64 y) w:=by
   have:arr[p]? =some e:=by simpa using e2
   rw [this];simp only [yaJ,ycg,e3,Instr.keyThatStays,Instr.sameBits,yag];simp
  rw [hks];exact f1
theorem zpJ (hi:Inv ρ w0 j H w) {t:TypeId} {m q x:AV} {um uq ux:Value} {H':Heap} (hm:R ρ j m um) (hq:R ρ j q uq) (hx:R ρ j x ux) (h:JF P H t m q x=some H'):
    ∃ w',(Instr.mapUpdate t um uq ux).run P w= .ok () w'∧Inv ρ w0 j H' w'∧St j H j H':=by
  unfold JF at h;split at h
  · cases h
  · rename_i kd et hmo;obtain ⟨kt,hu,hkt,hkd⟩:=ET hmo;split at h
    case h_2=>cases h
    rename_i n;split at h
    case h_2=>exact zmY hi hu hkt hkd hm hq hx h
    rename_i es clock hkey hma;obtain ⟨L,hj,rfl⟩:=hm;obtain ⟨arr,h1,h2⟩:=hi.gP hj hma;split at h
    · cases h
    · rename_i i v' hf;obtain ⟨r',h3,v2,rfl,_,_,e',x',h4,h5,_,_,h6⟩:=uW hq h2 hf;split at h
      · cases h
      · rename_i e hn;rw [Pw] at hn;rw [ycK] at h4 h5;rw [h4] at hn;cases hn;split at h
        case h_2=>cases h
        rename_i hb;have hb:=AV.beq_eq hb;cases h;rw [hb] at h6;obtain ⟨hfun,Da⟩:=X5 hkey h6 hq;have h5':arr[i]? =some x':=by simpa using h5
        obtain ⟨w',g1,g2,g3⟩:=hi.mapped (es':=Fu es i ⟨q,x,e'.born⟩) (c':=clock) (arr':=arr.modify i fun y=> { y with key:=uq,val:=ux }) hj hma
          (by
            rw [ybJ];exact zvx _ h2 (fun y hy=>⟨hq,hx,by
              rw [h5] at hy;cases hy;exact (Qa h2 h4 h5:x'.born=e'.born)⟩)) P
        refine ⟨w',?_,g2,g3⟩;unfold Instr.mapUpdate;simp only [yad,run_underlying hu,yac,run_getObj_map P h1,run_checkKey hkt hkd,run_findKey hkt h3];have hks:(Instr.keyThatStays (((arr[i]?).map (·.key)).getD uq) uq).run P w= .ok uq w:=by
          rw [h5'];rw [hfun] at Da;simp only [yaJ,ycg,Instr.keyThatStays,hfun,Da,ycD,yag]
        rw [hks];exact g1
    · rename_i hf;cases h;obtain ⟨r',h3,rfl⟩:=uW hq h2 hf;obtain ⟨w',g1,g2,g3⟩:=hi.mapped (es':=es++ [⟨q,x,clock⟩]) (c':=clock+1) (arr':=arr.push { key:=uq,val:=ux,born:=clock }) hj hma
        (by rw [ybg];exact P9 h2 hq hx rfl) P
      refine ⟨w',?_,g2,g3⟩;unfold Instr.mapUpdate;simp only [yad,run_underlying hu,yac,run_getObj_map P h1,run_checkKey hkt hkd,run_findKey hkt h3];exact g1
theorem XW (hi:Inv ρ w0 j H w) (he:ER ρ j N env a) {t:TypeId} {xm xk xv:Operand} (ho:o.op= .mapUpdate t xm xk xv∨o.op= .insert t xm xk xv) (h:Ob.den ρ (BV P t xm xk xv env H k)):iD P ρ w0 j H w a o k Q:=by
 unfold BV at h;split at h
 case h_2=>exact h.elim
 rename_i m q x hm hq hx;cases hs:JF P H t m q x with
 | none=>rw [hs] at h;exact h.elim
 | some H'=>
  rw [hs] at h;obtain ⟨w',h1,h2,h3⟩:=zpJ hi (bR he hm) (bR he hq) (bR he hx) hs;refine .skip (w':=w') ?_ ⟨jb,H',j,rJ,h2,h3,h⟩;rcases ho with ho|ho<;>simp only [execOp,ho,yad,h1,yac,yag]
theorem ztX {arr:Array MapEntry} {q:AV} {o:Option AV} (hq:Cm q=true):pF ρ j arr (q,o):=by
 unfold pF
 dsimp only
 split
 ·cases hq
 ·trivial
theorem zjM (hi:Inv ρ w0 j H w) {t kt et:TypeId} {kd:TypeDesc} (hu:P.underlying t=some (.map kt et)) (hkt:P.underlying kt=some kd) {n:Nat} {q r:AV} {um uq:Value} {H':Heap} (hm:R ρ j (.map n) um) (hq:R ρ j q uq) (h:Jf P H kd et n q=some (r,H')):
    ∃ u w' j',(Instr.mapEntry t um uq).run P w= .ok u w'∧R ρ j' r u∧Inv ρ w0 j' H' w'∧St j H j' H':=by
  unfold Jf at h;split at h
  case h_2=>cases h
  rename_i kk;split at h
  case h_2=>cases h
  rename_i kn log hk hmx;split at h
  case h_2=>cases h
  rename_i z hf hz;cases h;obtain ⟨y,rfl⟩:=Pb hk hq;obtain ⟨L,hj,rfl⟩:=hm;obtain ⟨ob,h1,h2⟩:=hi.obj n L hj;rw [qi hmx] at h1;cases h1;obtain ⟨g1,g2,g3,arr,clock,gq,kG,m0,m1,h3,h4,⟨h5,hbn,_⟩,h6,h7,h8,h9⟩:=h2;obtain ⟨z',hz1,hz2,_⟩:=uU (ρ:=ρ) (j:=j) hz;obtain ⟨x,o,f1,f2,f3⟩:=NW hq h6 hf;have f2:o=none:=f2;subst f2;have hyx:y=x:=by
    simp only [Instr.sameNow] at f3;split at f3
    · simpa using f3
    · cases f3
  subst hyx;have hv:=h8 y none f1;rcases Bh (kk:=kk) (n:=y) arr.toList 0 h5.keys with ⟨e1,e2⟩|⟨p,e,e1,e2,e3⟩
  · obtain ⟨k1,k2⟩:=ZY (v:=z') (c:=clock) h5 e2;have hjn:j H.nx=none:=by
      cases hc:j H.nx with
      | none=>rfl
      | some L'=>exact absurd (hi.dom _ _ hc) (ybe _)
    have hnn:n<H.nx:=hi.dom n L hj;have hi1:=(hi.extend .opq (fun _ _ _ _ _ _ hh=>by cases hh)).hand (n:=H.nx) (by rw [Heap.alloc_eq];exact T.get_set_same _ _ _) hjn (goInt clock);have hsub:Sub j (jV j H.nx ⟨0,0,0,some (goInt clock)⟩):=uY hjn;have hj1:=hsub n L hj;have hm1:(H.alloc .opq).m.get n=some (.dw kn log):=by
      rw [Heap.alloc_eq];show (H.m.set H.nx .opq).get n=_;rw [T.jw _ _ (by omega)];exact qi hmx
    have hq1:=hq.mono hsub;have hs1:R ρ (jV j H.nx ⟨0,0,0,some (goInt clock)⟩) (.opq H.nx none) (goInt clock):=⟨⟨_,nP _ _ _,rfl⟩,rfl,fun _ hh=>by cases hh⟩;have hpn:pF ρ (jV j H.nx ⟨0,0,0,some (goInt clock)⟩) (arr.push { key:= .int .i64 y,val:=z',born:=clock }) (q,some z):=ztX hk;have hfi:(arr.push { key:= .int .i64 y,val:=z',born:=clock }).toList.findIdx? (fun e=>(e.born:Int)==((clock:Nat):Int))=some arr.size:=by
      rw [ybg,List.findIdx?_append];have:arr.toList.findIdx? (fun e=>(e.born:Int)==((clock:Nat):Int))=none:=by
        rw [List.findIdx?_eq_none_iff];intro e he;have:=hbn.1 e he;simp;omega
      rw [this];simp
    obtain ⟨w',f4,f5,f6⟩:=hi1.Tt (DN:= [(q,some z),(.aK [.opq H.nx none,q],none)]) (DY:=(q,some z)::log) hj1 hm1 h3 (c':=clock+1) (m0':= [(y,some z')])
      ⟨k1,Xu hbn _ _,fun e he=>by
        rcases yaj.1 he with rfl|he
        · exact hpn
        · rw [yaI] at he;subst he;exact ⟨y,clock,arr.size,{ key:= .int .i64 y,val:=z',born:=clock },hs1,hq1,hfi,by rw [ybg];simp,rfl⟩⟩
      (by
        have ht:QS q=false:=by cases q<;>first|rfl|cases hk
        rw [show tH [(q,some z),(.aK [.opq H.nx none,q],none)]= [(q,some z)] by simp only [tH];rw [ht];rfl];exact ⟨y,some z',[],rfl,hq1,⟨z',rfl,hz2.mono hsub⟩,rfl⟩)
      (fun x' o' hx'=>by rw [yaI] at hx';cases hx';rw [k2,yak rfl])
      (fun gq m1 h7 h9=>⟨(y,some z')::m1,⟨y,some z',m1,rfl,hq1,⟨z',rfl,hz2.mono hsub⟩,h7⟩,fun m=>by rw [k2];exact Zw _ _ _ _ _ h9 m⟩) P
    refine ⟨.tuple #[z',goInt clock],w',_,?_,⟨_,rfl,.two (hz2.mono hsub) hs1⟩,f5,⟨hsub,fun k L' h1 h2=> ?_,fun k hp h1 h2=> ?_,?_⟩⟩
    · simp only [Instr.mapEntry,yad,run_underlying hu,yac,run_getObj_map P h3,run_checkKey hkt (.inl ⟨kk,rfl⟩),run_findKey hkt e1,hz1,f4,yag]
    · by_cases hk':k=H.nx
      · omega
      · rw [nO _ _ hk'] at h1;rw [h1] at h2;cases h2
    · have:=f6.keep k hp (by rw [nO _ _ (by omega)];exact h1) (by rw [Heap.alloc_eq];show k<H.nx+1;omega);rw [this.1,this.2,Heap.alloc_eq];exact ⟨T.jw _ _ (by omega),rfl⟩
    · have:=f6.nx;rw [Heap.alloc_eq] at this ⊢;exact Nat.le_of_succ_le this
  · rw [wY h5 (ya8 e2) e3] at hv;cases hv
theorem Ow {s k:AV}: ∀ {kn:List (AV×Option AV)},FC s kn=some k→ ∃e∈kn,e.1= .aK [s,k]
 | [], h=>by cases h
 | e::l,h=>by
  unfold FC at h;split at h
  ·rename_i s' k' he;split at h
   ·rename_i hb;cases h;exact ⟨e,by simp,by rw [he,AV.beq_eq hb]⟩
   ·obtain ⟨e',h1,h2⟩:=Ow h;exact ⟨e',by simp [h1],h2⟩
  ·obtain ⟨e',h1,h2⟩:=Ow h;exact ⟨e',by simp [h1],h2⟩
theorem zh3 (hi:Inv ρ w0 j H w) {t:TypeId} {n q:Nat} {x:AV} {um us ux:Value} {H':Heap} (hm:R ρ j (.map n) um) (hs:R ρ j (.opq q none) us) (hx:R ρ j x ux) (h:Ib H n q x=some H'):
  ∃ w',(Instr.entryStore t um us ux).run P w= .ok () w'∧Inv ρ w0 j H' w'∧St j H j H':=by
 unfold Ib at h;split at h
 case h_2=>cases h
 rename_i kn log hmx;split at h
 case h_2=>cases h
 rename_i k hp;cases h;obtain ⟨L,hj,rfl⟩:=hm;obtain ⟨ob,h1,h2⟩:=hi.obj n L hj;rw [qi hmx] at h1;cases h1;obtain ⟨g1,g2,g3,arr,clock,gq,kG,m0,m1,h3,h4,⟨h5,hbn,hpd⟩,h6,h7,h8,h9⟩:=h2;obtain ⟨e,he,hek⟩:=Ow hp;have hpe:=hpd e he;unfold pF at hpe;rw [hek] at hpe;obtain ⟨y,b,p,ent,p1,p2,p3,p4,p5⟩:=hpe;have fH:us= .int .i64 b:=by
  obtain ⟨⟨L1,a1,a2⟩,_⟩:=hs;obtain ⟨⟨L2,b1,b2⟩,_⟩:=p1;rw [a1] at b1;cases b1;rw [a2] at b2;exact yaE b2
 subst fH;obtain ⟨k1,k2⟩:=Xj (v:=ux) h5 p4 p5;have hsame:(arr.modify p fun y=> { y with val:=ux })=arr.modify p fun e=> { e with key:= .int .i64 y,val:=ux }:=by
  apply ycP;intro i;rw [yc9,yc9];by_cases gF:p=i
  ·subst gF;have:arr[p]? =some ent:=by simpa using p4
   rw [yak rfl,yak rfl,this];simp only [yaJ];rw [←p5]
  ·rw [yah gF,yah gF]
 obtain ⟨w',f1,f2,f3⟩:=hi.dw hj (qi hmx) p2 (o:=some x) (ov:=some ux) ⟨ux,rfl,hx⟩ h3 (c':=clock) k1 (V8 hbn _ _ fun _=>rfl) k2 P;refine ⟨w',?_,f2,f3⟩;have h3':arr.findIdx? (fun e=>(e.born:Int)==(b:Int))=some p:=by rw [←List.findIdx?_toArray,ycf] at p3;exact p3
 rw [←hsame] at f1;simp only [Instr.entryStore,yad,run_getObj_map P h3,yac,asInt,asIntOf,yag];rw [h3'];simp only [f1]
theorem zm0 (hi:Inv ρ w0 j H w) (he:ER ρ j N env a) {t:TypeId} {xm xk:Operand} (ho:o.op= .mapEntry t xm xk) (h:Ob.den ρ (IX P t xm xk env H k)):iD P ρ w0 j H w a o k Q:=by
 unfold IX at h;split at h
 case h_2=>exact h.elim
 rename_i m q hm0 hq0;have hm:=bR he hm0;have hq:=bR he hq0;unfold XY at h;split at h
 ·exact h.elim
 ·rename_i kd et hmo;obtain ⟨kt,hu,hkt,hkd⟩:=ET hmo;split at h
  case h_2=>exact h.elim
  rename_i n;split at h
  case h_2=>
   cases hmx:Jf P H kd et n q with
   | none=>rw [hmx] at h;exact h.elim
   | some r=>
    rw [hmx] at h;obtain ⟨u,w',j',f1,f2,f3,f4⟩:=zjM (P:=P) hi hu hkt hm hq hmx;exact .value (u:=u) (w':=w') (by simp only [execOp,ho,yad,f1,yac,yag]) ⟨r.1,r.2,j',f2,f3,f4,h⟩
  rename_i es clock hkey hma;obtain ⟨L,hj,GR⟩:=hm;obtain ⟨arr,h1,h2⟩:=hi.gP hj hma;split at h
  ·exact h.elim
  ·rename_i i v' hf;obtain ⟨r',h3,v2,rfl,hv2,_,e',x',h4,h5,hev,hxv,h6⟩:=uW hq h2 hf;split at h
   ·exact h.elim
   ·rename_i e hn;rw [Pw] at hn;rw [ycK] at h4 h5;rw [h4] at hn;cases hn;split at h
    case h_2=>exact h.elim
    rename_i hb;have hb:=AV.beq_eq hb;rw [hb] at h6;obtain ⟨hfun,Da⟩:=X5 hkey h6 hq;rw [hfun] at Da;have h5':arr[i]? =some x':=by simpa using h5
    have hsame:(arr.modify i fun y=> { y with key:=a.eval xk })=arr:=by
     apply ycP;intro z;rw [yc9];by_cases hz:i=z
     ·subst hz;rw [yak rfl,h5',yaJ];congr 1;rw [←hfun]
     ·rw [yah hz]
    have hset:w.heap.setIfInBounds L.blk (.map arr clock)=w.heap:=by
     apply ycP;intro z;rw [ydB];by_cases hz:L.blk=z
     ·subst hz;have hlt:L.blk<w.heap.size:=by
       rcases ybU L.blk w.heap.size with h'|h'
       ·exact h'
       ·rw [ybl h'] at h1;cases h1
      rw [yak rfl,yak hlt,h1]
     ·rw [yah hz]
    have hborn:x'.born=e'.born:=Qa h2 h4 h5;refine .value (u:= .tuple #[v2,goInt x'.born]) (w':=w) ?_ ⟨.aK [v',.int .i64 (.lit (.ofNat e'.born))],H,j,⟨_,rfl,.two hv2 (by rw [hborn];rfl)⟩,hi,St.refl j H,h⟩;have hks:(Instr.keyThatStays (((arr[i]?).map (·.key)).getD (a.eval xk)) (a.eval xk)).run P w= .ok (a.eval xk) w:=by
     rw [h5'];simp only [yaJ,ycg,Instr.keyThatStays,hfun,Da,ycD,yag]
    simp only [execOp,ho,GR,Instr.mapEntry,yad,run_underlying hu,yac,run_getObj_map P h1,run_checkKey hkt hkd,run_findKey hkt h3,hks,hsame,run_setObj_map P h1 rfl,hset,yag];rw [h5'];rfl
  ·rename_i hf;obtain ⟨r',h3,rfl⟩:=uW hq h2 hf;split at h
   ·exact h.elim
   ·rename_i z hz;obtain ⟨z',hz1,hz2,_⟩:=uU (ρ:=ρ) (j:=j) hz;obtain ⟨w',g1,g2,g3⟩:=hi.mapped (es':=es++ [⟨q,z,clock⟩]) (c':=clock+1) (arr':=arr.push { key:=a.eval xk,val:=z',born:=clock }) hj hma
     (by rw [ybg];exact P9 h2 hq hz2 rfl) P
    refine .value (u:= .tuple #[z',goInt clock]) (w':=w') ?_ ⟨.aK [z,.int .i64 (.lit (.ofNat clock))],_,j,⟨_,rfl,.two hz2 rfl⟩,g2,g3,h⟩;simp only [execOp,ho,GR,Instr.mapEntry,yad,run_underlying hu,yac,run_getObj_map P h1,run_checkKey hkt hkd,run_findKey hkt h3,hz1,g1,yag]
theorem UA: ∀ {es l:List ME} {xs:List MapEntry} {b:Nat} {x:AV} {ux:Value},RM ρ j es xs→R ρ j x ux→JJ b x es=some l→
  ∃ i,xs.findIdx? (fun e=>(e.born:Int)==(b:Int))=some i∧RM ρ j l (xs.modify i fun e=> { e with val:=ux })
 | [], _,_,_,_,_,_,_,h=>by cases h
 | e::es,l,_,b,x,ux,hr,hx,h=>by
  obtain ⟨y,ys,rfl,h1,h2,h3,h4⟩:=hr;unfold JJ at h;split at h
  ·rename_i hb;have hb:=aY hb;cases h;refine ⟨0,by simp [List.findIdx?_cons,h3,hb],?_⟩;rw [yc3];exact ⟨_,ys,rfl,h1,hx,h3,h4⟩
  ·rename_i hb;split at h
   ·rename_i m hm;cases h;obtain ⟨i,h5,h6⟩:=UA h4 hx hm;have hne:e.born≠b:=fun hh=>by rw [hh,yb7] at hb;cases hb
    refine ⟨i+1,?_,?_⟩
    ·rw [List.findIdx?_cons,h5];have:((y.born:Int)==(b:Int))=false:=by simp;omega
     simp [this]
    ·rw [yc3];exact ⟨y,_,rfl,h1,h2,h3,by simpa using h6⟩
   ·cases h
theorem zka (hi:Inv ρ w0 j H w) (he:ER ρ j N env a) {t:TypeId} {xm xs xv:Operand} (ho:o.op= .entryStore t xm xs xv) (h:Ob.den ρ (Ic t xm xs xv env H k)):iD P ρ w0 j H w a o k Q:=by
 unfold Ic at h;split at h
 case h_2=>exact h.elim
 rename_i m q x hm0 hq0 hx0;have hm:=bR he hm0;have hq:=bR he hq0;have hx:=bR he hx0;unfold UZ at h;split at h
 case h_3=>exact h.elim
 case h_2=>
  rename_i n q';cases hmx:Ib H n q' x with
  | none=>rw [hmx] at h;exact h.elim
  | some H'=>
   rw [hmx] at h;obtain ⟨w',f1,f2,f3⟩:=zh3 (P:=P) (t:=t) hi hm hq hx hmx;exact .skip (w':=w') (by simp only [execOp,ho,yad,f1,yac,yag]) ⟨jb,H',j,rJ,f2,f3,h⟩
 rename_i n kk b;simp only [R,SE.den] at hq;obtain ⟨L,hj,GR⟩:=hm;split at h
 ·exact h.elim
 ·rename_i es clock hma;obtain ⟨arr,h1,h2⟩:=hi.gP hj hma;split at h
  case h_2=>exact h.elim
  rename_i l hl;obtain ⟨i,h3,h4⟩:=UA h2 hx hl;obtain ⟨w',g1,g2,g3⟩:=hi.mapped (es':=l) (c':=clock) (arr':=arr.modify i fun e=> { e with val:=a.eval xv }) hj hma (by rw [ybJ];exact h4) P;have h3':arr.findIdx? (fun e=>(e.born:Int)==(b:Int))=some i:=by rw [←List.findIdx?_toArray,ycf] at h3;exact h3
  refine .skip (w':=w') ?_ ⟨jb,_,j,rJ,g2,g3,h⟩;simp only [execOp,ho,GR,hq,Instr.entryStore,yad,run_getObj_map P h1,yac,asInt,asIntOf,yag];have aak:arr.findIdx? (fun e=>(e.born:Int)==Int.ofNat b)=some i:=h3';rw [aak];simp only [g1,yac]
theorem JQ (he:ER ρ j N env a) {c:Call} {vs:List AV} (h:jY env c.args.toList=some vs):RL ρ j vs (c.args.map a.eval).toList:=by
 rw [ydy];exact IC he h
theorem KO (he:ER ρ j N env a) {c:Call} {x y:AV} (h:jY env c.args.toList=some [x,y]): ∃u v,c.args.map a.eval= #[u,v]∧R ρ j x u∧R ρ j y v:=by
 obtain ⟨u,m,e1,h1,h2⟩:=JQ he h;obtain ⟨v,m',e2,h3,h4⟩:=h2;have e3:m'= []:=h4;subst e3 e2;exact ⟨u,v,yck (by rw [e1]),h1,h3⟩
theorem Hq {c:Call} {b:Builtin} {u:Value} {w':World} (ho:o.op= .call c) (hc:c.callee= .builtin b) {f:Array TypeId→TypeId→Array Value→Sem Value}
  (hb: ∀ats ty cs args,builtin b ats ty cs args=(do pure (.value (←f ats ty args)))) (h:(f c.argTypes o.type (c.args.map a.eval)).run P w= .ok u w'):(execOp a.eval o).run P w= .ok (.value u) w':=by
 simp only [execOp,ho,resolve,hc,yad,yag,yac,invoke,hb,h]
theorem Pj {r:Nat} {ob:Go.Obj} (h:w.heap[r]? =some ob):w.heap.setIfInBounds r ob=w.heap:=by
 apply ycP;intro z;rw [ydB];by_cases hz:r=z
 ·subst hz;have hlt:r<w.heap.size:=by
   rcases ybU r w.heap.size with h'|h'
   ·exact h'
   ·rw [ybl h'] at h;cases h
  rw [yak rfl,yak hlt,h]
 ·rw [yah hz]
theorem zsk (hi:Inv ρ w0 j H w) (he:ER ρ j N env a) {c:Call} (ho:o.op= .call c) (hc:c.callee= .builtin .delete) (h:Ob.den ρ (JM P c.argTypes.toList c.args.toList env H k)):iD P ρ w0 j H w a o k Q:=by
  unfold JM at h;split at h
  case h_2=>exact h.elim
  rename_i t rest m q hts hargs;have ht:=H9 hts;obtain ⟨um,uq,hargs',hm,hq⟩:=KO he hargs;cases hd:Pm P H t m q with
  | none=>rw [hd] at h;exact h.elim
  | some H'=>
    rw [hd] at h
    suffices hs: ∃w',(Builtin.delete_ c.argTypes o.type #[um,uq]).run P w= .ok (.tuple #[]) w'∧Inv ρ w0 j H' w'∧St j H j H' by
      obtain ⟨w',h1,h2,h3⟩:=hs;exact .value (Hq ho hc (fun _ _ _ _=>rfl) (by rw [hargs'];exact h1)) ⟨jb,H',j,rJ,h2,h3,h⟩
    unfold Pm at hd;split at hd
    · cases hd
    · rename_i kd et hmo;obtain ⟨kt,hu,hkt,hkd⟩:=ET hmo;split at hd
      · cases hd
      · split at hd
        · cases hd;simp only [R] at hm;subst hm;refine ⟨w,?_,hi,St.refl j H⟩;unfold Builtin.delete_;simp only [ht,yay,yau,yaG,yad,run_underlying hu,yac,run_checkKey hkt hkd,yag]
        · rename_i n;split at hd
          · unfold zrI at hd;split at hd
            case h_2=>cases hd
            rename_i kk _;split at hd
            case h_2=>cases hd
            rename_i kn log hk hmx;cases hd;obtain ⟨y,rfl⟩:=Pb hk hq;obtain ⟨L,hj,rfl⟩:=hm;obtain ⟨ob,h1,h2⟩:=hi.obj n L hj;rw [qi hmx] at h1;cases h1;obtain ⟨g1,g2,g3,arr,clock,gq,kG,m0,m1,h3,h4,⟨h5,hbn,_⟩,h6,h7,h8,h9⟩:=h2;rcases Bh (kk:=kk) (n:=y) arr.toList 0 h5.keys with ⟨e1,e2⟩|⟨p,e,e1,e2,e3⟩
            · obtain ⟨w',f1,f2,f3⟩:=hi.dw hj (qi hmx) hq (o:=none) (ov:=none) rfl h3 (c':=clock) h5 hbn (zgM e2) P;rw [run_setObj_map P h3 rfl,Pj h3] at f1;cases f1;refine ⟨w,?_,f2,f3⟩;unfold Builtin.delete_;simp only [ht,yay,yau,yaG,yad,run_underlying hu,yac,run_getObj_map P h3,run_checkKey hkt hkd,run_findKey hkt e1,run_setObj_map P h3 rfl,Pj h3,yag]
            · obtain ⟨k1,k2⟩:=zsY h5 e2 e3;obtain ⟨w',f1,f2,f3⟩:=hi.dw hj (qi hmx) hq (o:=none) (ov:=none) rfl h3 (c':=clock) k1 (zp5 hbn _) k2 P;rw [yaf] at e1;refine ⟨w',?_,f2,f3⟩;unfold Builtin.delete_;simp only [ht,yay,yau,yaG,yad,run_underlying hu,yac,run_getObj_map P h3,run_checkKey hkt hkd,run_findKey hkt e1,f1,yag]
          · rename_i es clock hma;obtain ⟨L,hj,rfl⟩:=hm;obtain ⟨arr,h1,h2⟩:=hi.gP hj hma;split at hd
            · cases hd
            · rename_i i v' hf;cases hd;obtain ⟨r',h3,v2,rfl,_,_,_⟩:=uW hq h2 hf;obtain ⟨w',g1,g2,g3⟩:=hi.mapped (es':=BU es i) (c':=clock) (arr':=arr.eraseIdxIfInBounds i) hj hma
                (by
                  have:(arr.eraseIdxIfInBounds i).toList=arr.toList.eraseIdx i:=by
                    unfold Array.eraseIdxIfInBounds;split
                    · simp
                    · rw [ydM];simp;omega
                  rw [this];exact zsQ h2) P
              refine ⟨w',?_,g2,g3⟩;unfold Builtin.delete_;simp only [ht,yay,yau,yaG,yad,run_underlying hu,yac,run_getObj_map P h1,run_checkKey hkt hkd,run_findKey hkt h3,g1,yag]
            · rename_i hf;cases hd;obtain ⟨r',h3,rfl⟩:=uW hq h2 hf;refine ⟨w,?_,hi,St.refl j H⟩;unfold Builtin.delete_;simp only [ht,yay,yau,yaG,yad,run_underlying hu,yac,run_getObj_map P h1,run_checkKey hkt hkd,run_findKey hkt h3,run_setObj_map P h1 rfl,Pj h1,yag]
        · cases hd
theorem zpQ {x:AV} {u:Value} (hx:R ρ j x u) (h:DJ x=true): ∃b n c,u= .slice b n c:=by
 cases x<;>simp only [DJ] at h<;>try (cases h;done)
 case dz=>exact ⟨_,_,_,hx⟩
 case sl=>obtain ⟨L,_,_,hu⟩:=hx;exact ⟨_,_,_,hu⟩
 case emp=>obtain ⟨p,c,hu⟩:=hx;exact ⟨_,_,_,hu⟩
theorem Uq {sz:Nat} {u:Value} (h:(∃b n c,u= .slice b n c)∨ ∃s,u= .string s):(Builtin.firstCells sz 0 u).run P w= .ok #[] w:=by
 rcases h with ⟨b,n,c,rfl⟩|⟨s,rfl⟩
 ·cases b with
  | none=>rfl
  | some p=>simp [Builtin.firstCells,loadCells,loadCellsFrom]
 ·simp [Builtin.firstCells]
theorem zxc (hi:Inv ρ w0 j H w) (he:ER ρ j N env a) {c:Call} (ho:o.op= .call c) (hc:c.callee= .builtin .copy) (h:Ob.den ρ (Kt P c.argTypes.toList c.args.toList env H k)):iD P ρ w0 j H w a o k Q:=by
 unfold Kt at h;split at h
 case h_2=>exact h.elim
 rename_i t rest d s hts hargs;have ht:=H9 hts;obtain ⟨ud,us,hargs',hd,hs⟩:=KO he hargs;cases hcp:QX P H t d s with
 | none=>rw [hcp] at h;exact h.elim
 | some q=>
  obtain ⟨v,H'⟩:=q;rw [hcp] at h
  suffices hs: ∃u w',(Builtin.copy_ c.argTypes o.type #[ud,us]).run P w= .ok u w'∧R ρ j v u∧Inv ρ w0 j H' w'∧St j H j H' by
   obtain ⟨u,w',h1,h2,h3,h4⟩:=hs;exact .value (Hq ho hc (fun _ _ _ _=>rfl) (by rw [hargs'];exact h1)) ⟨v,H',j,h2,h3,h4,h⟩
  unfold QX at hcp;split at hcp
  case h_2=>cases hcp
  rename_i sz n m hsz hn hm;obtain ⟨e,hu,hs'⟩:=BB hsz;obtain ⟨hlen,hkind⟩:=IG (P:=P) (w:=w) hs hm;have hmin:MC m n=Nat.min m n:=by
   unfold MC;cases hb:Nat.ble m n with
   | true=>have:=yam hb;simp [Nat.min_def,this]
   | false=>
    have: ¬m≤n:=fun hh=>by rw [yb9 hh] at hb;cases hb
    simp [Nat.min_def,this]
  rw [hmin] at hcp;have LU:(∃b n c,us= .slice b n c)∨ ∃s,us= .string s:=by
   rcases hkind with ⟨b,c,e⟩|⟨s,e,_⟩
   ·exact .inl ⟨b,_,c,e⟩
   ·exact .inr ⟨s,e⟩
  unfold YN at hcp;split at hcp
  ·rename_i hz;split at hcp
   ·rename_i hsl;cases hcp;obtain ⟨b,nd,cd,rfl⟩:=zpQ hd hsl;obtain ⟨_,hnd⟩:=IG (P:=P) (w:=w) hd hn;have hnd:nd=n:=by
     rcases hnd with ⟨b',c',e⟩|⟨s',e,_⟩
     ·cases e;rfl
     ·cases e
    subst hnd;refine ⟨goInt 0,w,?_,rfl,hi,St.refl j H⟩;unfold Builtin.copy_;simp only [ht,yay,yau,yaG,yad,run_underlying hu,yac,hlen,run_sizeOf hs',hz,Uq LU];cases b<;>rfl
   ·cases hcp
  ·rename_i cc hz;split at hcp
   case h_2=>cases hcp
   rename_i l b off len cap hl;split at hcp
   case h_2=>cases hcp
   rename_i H2 hst;cases hcp;obtain ⟨L,hj,hck,rfl⟩:=hd;have hnn:len=n:=by simp only [sO] at hn;exact yaE hn
   subst hnn;obtain ⟨xs,h1,h2⟩:=Et (P:=P) hi hs hl;obtain ⟨w',h3,h4,h5⟩:=hi.store hst hj h2 P;refine ⟨goInt (Nat.succ cc),w',?_,rfl,h4,h5⟩;unfold Builtin.copy_;simp only [ht,yay,yau,yaG,yad,run_underlying hu,yac,hlen,run_sizeOf hs',hz];have h1:(Builtin.firstCells sz (cc+1) us).run P w= .ok xs.toArray w:=h1;rw [h1];simp only [yac,yad,List.toList_toArray,h3,yag]
end
end Go.Dw
namespace Go.Dw
section
variable {P:Program} {ρ:Val} {w0:Cx} {j:J} {H:Heap} {w:World} {N:Nat} {env:T AV} {a:Act} {o:Oper} {k:K} {Q:Exit→Act→World→Prop}
theorem znh {t:TypeId} {by' sz:Nat} (h:Jh P t=some (by',sz)):
  ∃ e inf z',P.underlying t=some (.slice e)∧P.info? e=some inf∧inf.bytes=by'∧inf.size=sz∧0<sz∧(∀w',(zeroValue e).run P w'= .ok z' w')∧z'.cells.size=sz:=by
 unfold Jh at h;split at h
 case h_2=>cases h
 rename_i e hu;split at h
 case h_2=>cases h
 rename_i inf z jQ hz;split at h
 case h_2=>cases h
 rename_i s hb hs;cases h;obtain ⟨z',h1,h2,_⟩:=uU (ρ:=(Val.zero:Val)) (j:=fun _=>none) hz;have:=(xh h2).length;rw [ybc,aY hb,hs] at this;exact ⟨e,inf,z',hu,jQ,rfl,hs,by omega,h1,this⟩
theorem YV {t:TypeId} (h:zF P t=true):(∃e,P.underlying t=some (.slice e))∨P.underlying t=some .string:=by
 unfold zF at h;split at h
 ·exact .inl ⟨_,‹_›⟩
 ·exact .inr ‹_›
 ·cases h
theorem zma {c:Call} {t u:TypeId} {l:List TypeId} (h:c.argTypes.toList=t::u::l):c.argTypes[0]? =some t∧c.argTypes[1]? =some u:=by
 refine ⟨H9 h,?_⟩;rw [←ybp,h];rfl
theorem H8 {ats:Array TypeId} {ts tx e:TypeId} {ty:TypeId} {inf:TypeInfo} {base:Option Addr} {sl sc n:Nat} {x:Value} {xs:List Value} {w':World} (h0:ats[0]? =some ts) (h1:ats[1]? =some tx)
  (hu:P.underlying ts=some (.slice e)) (hx:zF P tx=true) (hi:P.info? e=some inf) (hn:(Builtin.lenOf x).run P w= .ok n w) (hle:sl+n≤sc) (hf:(Builtin.firstCells inf.size n x).run P w= .ok xs.toArray w)
  (hst:match base with|none=>w'=w|some p=>(storeCells (p.add (sl*inf.size)) xs).run P w= .ok () w'):(Builtin.append_ ats ty #[.slice base sl sc,x]).run P w= .ok (.slice base (sl+n) sc) w':=by
 have hsz:ig P e=some inf.size:=by simp [ig,hi]
 rcases YV hx with ⟨e',hd⟩|hd
 all_goals
  unfold Builtin.append_;simp only [h0,h1,yay,yau,yaG,yad,run_underlying hu,yac,run_sizeOf hsz,run_underlying hd,yag,yaW,ybW,hn];rw [yak hle];cases base with
  | none=>
   simp only [ydR,ycD,yad,hf,yac,yag];rw [hst]
  | some p=>
   simp only [ydR,ycD,yad,hf,yac,List.toList_toArray,hst,yag]
theorem Ut {ats:Array TypeId} {ts tx e:TypeId} {ty:TypeId} {inf:TypeInfo} {base:Option Addr} {sl sc n:Nat} {x z':Value} {old xs:List Value} (h0:ats[0]? =some ts) (h1:ats[1]? =some tx)
  (hu:P.underlying ts=some (.slice e)) (hx:zF P tx=true) (hi:P.info? e=some inf) (hn:(Builtin.lenOf x).run P w= .ok n w) (hlt:sc<sl+n) (hb:(sl+n)*inf.bytes≤140737488355328) (hcap:sl+n<4611686018427387904)
  (hz: ∀w',(zeroValue e).run P w'= .ok z' w') (ho:(Builtin.firstCells inf.size sl (.slice base sl sc)).run P w.drew= .ok old.toArray w.drew) (hf:(Builtin.firstCells inf.size n x).run P w.drew= .ok xs.toArray w.drew):
  ∃ nc rest,sl+n≤nc∧rest.size=(nc-(sl+n))*z'.cells.size∧(Builtin.append_ ats ty #[.slice base sl sc,x]).run P w=
   .ok (.slice (some ⟨w.heap.size,0,none⟩) (sl+n) nc) { w.drew with heap:=w.drew.heap.push (.cells (old.toArray++xs.toArray++rest) e (0,0)) }:=by
 have hsz:ig P e=some inf.size:=by simp [ig,hi]
 refine ⟨Question.cut (.appendCap (sl+n) sc e) (w.tape w.drawn (.appendCap (sl+n) sc e)),Builtin.zeroCells z'.cells (Question.cut (.appendCap (sl+n) sc e) (w.tape w.drawn (.appendCap (sl+n) sc e))-(sl+n)),?_,?_,?_⟩
 ·show sl+n≤(sl+n)+_;omega
 ·exact size_zeroCells _ _
 ·have ace:=growslice_fits (need:=sl+n) (old:=sc) (bytes:=inf.bytes) hlt hb;have ho:(Builtin.firstCells inf.size sl (.slice base sl sc)).run P { w with drawn:=w.drawn+1 }= .ok old.toArray { w with drawn:=w.drawn+1 }:=ho;have hf:(Builtin.firstCells inf.size n x).run P { w with drawn:=w.drawn+1 }= .ok xs.toArray { w with drawn:=w.drawn+1 }:=hf;rcases YV hx with ⟨e',hd⟩|hd
  all_goals
   unfold Builtin.append_;simp only [h0,h1,yay,yau,yaG,yad,run_underlying hu,yac,run_sizeOf hsz,run_underlying hd,yag,yaW,ybW,hn];rw [yah (by omega)];simp only [typeInfo,yad,ycx,yac,hi,yag,false_or];rw [yah (by
    intro hh;have:((sl+n:Nat):Int)>9223372036854775807:=hh.1;omega)]
   simp only [yad,yag,yac,ycx,hi];rw [yah (show¬(Builtin.nextslicecap (sl+n) sc*inf.bytes>2^48) by omega)];simp only [yad,run_choose,Question.forced,yaW,ybW,yac,run_askRoom,ycx,hi,yag];rw [ho];simp only [yac,ydR,ycD,yad,hf,hz];rfl
def KF (P:Program) (ρ:Val) (w0:Cx) (j:J) (H:Heap) (w:World) (ats:Array TypeId) (ty:TypeId) (us ux:Value) (v:AV) (H':Heap):Prop:=
 ∃ u w' j',(Builtin.append_ ats ty #[us,ux]).run P w= .ok u w'∧R ρ j' v u∧Inv ρ w0 j' H' w'∧St j H j' H'
theorem zwV {l:List AV} {xs:List Value} {rest:Array Value} {sz need nc nx:Nat} {e:TypeId} (hl:RL ρ j l xs) (hlen:l.length=need*sz) (hnc:need≤nc) (hrest:rest.size=(nc-need)*sz):
  zN ρ j (.cells (Vec.ofList l) sz nx none false true) (.cells (xs.toArray++rest) e (0,0)) nc:=by
 have hx:=hl.length;refine ⟨rfl,rfl,_,e,rfl,by rw [Vec.rq];simp [hx],⟨?_,fun _=> ?_⟩,fun i hi=> ?_⟩
 ·simp only [ycV,ycb,hx,hlen,hrest];rw [←ybX];exact ya9 _ (by omega)
 ·rw [Vec.rq,hlen];exact ya9 _ hnc
 ·rw [Vec.rq] at hi;rw [Vec.xY l i hi];obtain ⟨x,h1,h2⟩:=hl.get i _ (yai hi);exact ⟨x,by rw [ybL (by simp;omega)];simpa using h1,h2⟩
theorem Uw (hi:Inv ρ w0 j H w) {ats:Array TypeId} {ts tx e:TypeId} {ty:TypeId} {inf:TypeInfo} {base:Option Addr} {sl sc n:Nat} {ux z':Value} {old new l:List AV} {v:AV} {H':Heap} (h0:ats[0]? =some ts) (h1:ats[1]? =some tx)
  (hu:P.underlying ts=some (.slice e)) (hx:zF P tx=true) (jQ:P.info? e=some inf) (hn:(Builtin.lenOf ux).run P w= .ok n w) (hlt:sc<sl+n) (hpos:0<inf.size)
  (hz: ∀w',(zeroValue e).run P w'= .ok z' w') (hzs:z'.cells.size=inf.size) (hl:l=old++new) (ho:old.length=sl*inf.size) (hne:new.length=n*inf.size)
  (hold: ∃xs:List Value,(Builtin.firstCells inf.size sl (.slice base sl sc)).run P w.drew= .ok xs.toArray w.drew∧RL ρ j old xs) (hnew: ∃xs:List Value,(Builtin.firstCells inf.size n ux).run P w.drew= .ok xs.toArray w.drew∧RL ρ j new xs)
  (h:Jl H inf.bytes inf.size (sl+n) l=some (v,H')):KF P ρ w0 j H w ats ty (.slice base sl sc) ux v H':=by
 unfold Jl at h;split at h
 case h_2=>cases h
 rename_i hb hc;have hb:(sl+n)*inf.bytes≤35184372088832:=yam hb;have hc:(sl+n)*inf.size≤35184372088832:=yam hc;have hcap:sl+n≤35184372088832:=yas (Nat.le_mul_of_pos_right _ hpos) hc;cases h;obtain ⟨xo,ho1,ho2⟩:=hold;obtain ⟨xn,hn1,hn2⟩:=hnew;obtain ⟨nc,rest,h2,h3,h4⟩:=Ut (ty:=ty) h0 h1 hu hx jQ hn hlt (by omega) (by omega) hz ho1 hn1;have hlR:RL ρ j l (xo++xn):=by rw [hl];exact ho2.append hn2
 have yD:=zwV (rest:=rest) (nc:=nc) (need:=sl+n) (sz:=inf.size) (e:=e) (nx:=H.nx) hlR (by rw [hl,yaC,ho,hne,ybX]) h2 (by rw [h3,hzs]);obtain ⟨h5,h6⟩:=hi.drew.alloc yD (fun v e g cl sh oD=>by cases oD;exact .inl rfl);refine ⟨_,_,_,h4,⟨_,nP _ _ _,?_,?_⟩,?_,h6⟩
 ·exact ⟨by show 0+(sl+n)≤nc;omega,by show 0<nc;omega⟩
 ·show _=Value.slice (some ⟨w.heap.size,0,none⟩) (sl+n) (nc-0);simp
 ·have e1:(xo++xn).toArray++rest=xo.toArray++xn.toArray++rest:=by simp
  rw [←e1];exact h5
theorem zj7 {v:Vec} {off n:Nat} {new:List AV} (h:off+n=v.n):(extended v off n new).n=n+new.length∧(∀i,i<n→(extended v off n new).get i=v.get (off+i))∧ ∀i (hi:i<new.length),(extended v off n new).get (n+i)=new[i]:=by
 unfold extended;split
 ·rename_i h0;have h0:=aY h0;subst h0;obtain ⟨t,m,d⟩:=v;have hm:n=m:=by simpa using h
  subst hm;refine ⟨by rw [Vec.AP];rfl,fun i hi=> ?_,fun i hi=> ?_⟩
  ·rw [Vec.get_put,ydD (by omega)];simp only [Vec.get,yaf]
  ·rw [Vec.get_put,ydC (by omega)];congr 1;omega
 ·have hlen:(v.list off n++new).length=n+new.length:=by rw [yaC,Vec.rf]
  refine ⟨by rw [Vec.rq,hlen],fun i hi=> ?_,fun i hi=> ?_⟩
  ·have hlt:i<(v.list off n++new).length:=by omega
   rw [Vec.xY _ _ hlt];have e1:=Vec.zY n v off i hi;have e2:(v.list off n++new)[i]? =some (v.get (off+i)):=by rw [yaP (by rw [Vec.rf];exact hi)];exact e1
   rw [yai hlt] at e2;exact yaE e2
  ·have hlt:n+i<(v.list off n++new).length:=by omega
   rw [Vec.xY _ _ hlt];have e2:(v.list off n++new)[n+i]? =some new[i]:=by
    rw [yaV (by rw [Vec.rf];omega),Vec.rf,show n+i-n=i by omega];exact yai hi
   rw [yai hlt] at e2;exact yaE e2
theorem zkl (hi:Inv ρ w0 j H w) {ats:Array TypeId} {ts tx e:TypeId} {ty:TypeId} {inf:TypeInfo} {b off len kk n:Nat} {L:Loc} {ux z':Value} {new:List AV} {v:AV} {H':Heap} (h0:ats[0]? =some ts) (h1:ats[1]? =some tx)
  (hu:P.underlying ts=some (.slice e)) (hx:zF P tx=true) (jQ:P.info? e=some inf) (hn:(Builtin.lenOf ux).run P w= .ok n w) (hpos:0<inf.size)
  (hz: ∀w',(zeroValue e).run P w'= .ok z' w') (hzs:z'.cells.size=inf.size) (hne:new.length=n*inf.size) (hj:j b=some L) (hck:kk+len≤L.cap∧0<L.cap) (ab6:0<n)
  (hnew: ∃xs:List Value,(Builtin.firstCells inf.size n ux).run P w= .ok xs.toArray w∧RL ρ j new xs) (aaR: ∃xs:List Value,(Builtin.firstCells inf.size n ux).run P w.drew= .ok xs.toArray w.drew∧RL ρ j new xs)
  (h:P8 H inf.bytes inf.size n new b off len kk=some (v,H')):KF P ρ w0 j H w ats ty (.slice (some ⟨L.blk,L.off+off,none⟩) len (L.cap-kk)) ux v H':=by
 unfold P8 at h;split at h
 case h_2=>cases h
 rename_i vr aW g sh hm;split at h
 case h_2=>cases h
 rename_i hes hof hcells;have hes:=aY hes;have hof:off=kk*inf.size:=aY hof;subst hes;split at h
 ·rename_i hfull;have hfull:off+len*inf.size=vr.n:=aY hfull;split at h
  case h_2=>cases h
  rename_i hb hc;have hb:(len+n)*inf.bytes≤35184372088832:=yam hb;have hc:(len+n)*inf.size≤35184372088832:=yam hc;have hcap:len+n≤35184372088832:=yas (Nat.le_mul_of_pos_right _ hpos) hc;cases h;obtain ⟨e1,e2,e3⟩:=zj7 (new:=new) hfull;have abT:(⟨H.m,H.nx,H.gw⟩:Heap)=H:=rfl;by_cases hroom:len+n≤L.cap-kk
  ·
   obtain ⟨xs,hx1,hx2⟩:=hnew;have hmul:off+len*inf.size+new.length≤L.cap*inf.size:=by
    rw [hof,hne,←ybX,←ybX];exact ya9 _ (by omega)
   obtain ⟨w',g1,g2⟩:=hi.over (v':=extended vr off (len*inf.size) new) hj hm hof hfull (by omega) hmul hcells hx2 e1 e2 e3 P rfl;refine ⟨_,w',_,H8 (ty:=ty) h0 h1 hu hx jQ hn hroom hx1 (w':=w') ?_,⟨_,nP _ _ _,?_,?_⟩,g2,?_⟩
   ·simp only [addr_add];exact g1
   ·exact ⟨by show 0+(len+n)≤L.cap-kk;omega,by show 0<L.cap-kk;omega⟩
   ·simp [vF]
   ·have hs:=(hi.closed hj hm (v':=extended vr off (len*inf.size) new)).2;refine ⟨(uY hi.fresh),fun q Lq eq e0=> ?_,hs.keep,hs.nx⟩;by_cases hq:q=H.nx
    ·omega
    ·rw [nO _ _ hq,e0] at eq;cases eq
  ·
   obtain ⟨xs,hx1,hx2⟩:=aaR;have hal:H.row b=some vr:=by unfold Heap.row;rw [hm];rfl
   obtain ⟨xo,ho1,ho2⟩:=hi.drew.loadCells (P:=P) (off:=off) (k:=len*inf.size) hj hal (by omega);obtain ⟨nc,rest,h2,h3,h4⟩:=Ut (ty:=ty) (base:=some ⟨L.blk,L.off+off,none⟩) (sl:=len) (sc:=L.cap-kk) h0 h1 hu hx jQ hn (by omega) (by omega) (by omega) hz ho1 hx1;have hcl:=hi.drew.closed hj hm (v':=extended vr off (len*inf.size) new);have hn1:((H.upd b (.cells vr inf.size g (some (H.nx+1)) true true)).alloc (.cells (extended vr off (len*inf.size) new) inf.size g none true true)).m.get H.nx=some (.cells (extended vr off (len*inf.size) new) inf.size g none true true):=by
    rw [Heap.alloc_eq,Heap.p8];exact T.get_set_same _ _ _
   have hxo:=ho2.length;have hxs:=hx2.length;rw [Vec.rf] at hxo;have yD:zN ρ j (.cells (extended vr off (len*inf.size) new) inf.size g none true true) (.cells (xo.toArray++xs.toArray++rest) e (0,0)) nc:=by
    refine ⟨rfl,rfl,_,e,rfl,?_,⟨?_,fun _=> ?_⟩,fun i hii=> ?_⟩
    ·rw [e1];simp;omega
    ·simp only [ycV,ycb,hxo,hxs,hne,h3,hzs];rw [←ybX,←ybX];exact ya9 _ (by omega)
    ·rw [e1,hne,←ybX];exact ya9 _ h2
    ·rw [e1] at hii;by_cases hlt:i<len*inf.size
     ·rw [e2 i hlt];obtain ⟨x,q1,q2⟩:=ho2.get i _ (Vec.zY _ vr off i hlt);exact ⟨x,by rw [Array.append_assoc,ybL (by simp;omega)];simpa using q1,q2⟩
     ·have hi2:i-len*inf.size<new.length:=by omega
      have:=e3 (i-len*inf.size) hi2;rw [show len*inf.size+(i-len*inf.size)=i by omega] at this;rw [this];obtain ⟨x,q1,q2⟩:=hx2.get (i-len*inf.size) _ (yai hi2);refine ⟨x,?_,q2⟩;rw [Array.append_assoc,ydL (by simp;omega),ybL (by simp;omega)];simp only [ycb,hxo];simpa using q1
   obtain ⟨Lg,qH⟩:=hi.lX b L vr inf.size g none sh hj hm;have h5:=hcl.1.KM hn1 hi.fresh yD (fun v e g2 cl sh oD=>by cases oD;exact .inr ⟨Lg,qH⟩);refine ⟨_,_,_,h4,⟨_,nP _ _ _,?_,?_⟩,h5,?_⟩
   ·exact ⟨by show 0+(len+n)≤nc;omega,by show 0<nc;omega⟩
   ·show _=Value.slice (some ⟨w.heap.size,0,none⟩) (len+n) (nc-0);simp
   ·refine ⟨(uY hi.fresh),fun q Lq eq e0=> ?_,hcl.2.keep,hcl.2.nx⟩;by_cases hq:q=H.nx
    ·omega
    ·rw [nO _ _ hq,e0] at eq;cases eq
 ·split at h
  case h_2=>cases h
  rename_i hle;have hle:off+(len+n)*inf.size≤vr.n:=yam hle;split at h
  case h_2=>cases h
  rename_i H2 hst;cases h;obtain ⟨xs,hx1,hx2⟩:=hnew;obtain ⟨w',g1,g2,g3⟩:=hi.store hst hj hx2 P;obtain ⟨ob,q1,q2⟩:=hi.obj b L hj;rw [hm] at q1;cases q1;obtain ⟨_,_,_,_,_,⟨_,q3⟩,_⟩:=q2.2.2 rfl;have q3:=q3 hck.2;have hroom:len+n≤L.cap-kk:=by
   have:(kk+(len+n))*inf.size≤L.cap*inf.size:=by rw [ybX,←hof];omega
   have:=Nat.le_of_mul_le_mul_right this hpos;omega
  refine ⟨_,w',j,H8 (ty:=ty) h0 h1 hu hx jQ hn hroom hx1 (w':=w') ?_,⟨L,hj,⟨by show kk+(len+n)≤L.cap;omega,hck.2⟩,rfl⟩,g2,g3⟩;simp only [addr_add,ybn];exact g1
theorem Xl: ∀ {n:Nat} {l m:List AV},takeN n l=some m→m.length=n
 | 0,l,m,h=>by unfold takeN at h;cases h;rfl
 | n+1,[],m,h=>by unfold takeN at h;cases h
 | n+1,a::l,m,h=>by
  unfold takeN at h;split at h
  ·rename_i hm;cases h;simp [Xl hm]
  ·cases h
theorem Wx {sz n:Nat} {x:AV} {l:List AV} (h:nW H sz n x=some l):l.length=n*sz:=by
 cases x<;>simp only [nW] at h
 case dz=>
  cases n with
  | zero=>cases h;simp
  | succ n=>cases h
 case emp=>
  cases n with
  | zero=>cases h;simp
  | succ n=>cases h
 case str p=>
  split at h
  case h_2=>cases h
  rename_i e;have e:=aY e;rw [Xl h,e,Nat.mul_one]
 case sl b off len cap=>
  split at h
  ·cases h
  ·split at h
   ·cases h
   ·split at h
    ·cases h;rw [Vec.rf];rfl
    ·cases h
 all_goals cases h
def zsV (w:World) (b o:Nat) (vals:List Value):Prop:= ∀i v,vals[i]? =some v→w.cell? ⟨b,o+i,none⟩=some v
def Kr (P:Program) (ρ:Val) (w0:Cx) (t:TypeId) (s:AV) (n:Nat) (xs:List AV) (H:Heap) (k:K):Prop:=
 ∀ (j:J) (w:World) (us:Value) (bb o cap:Nat) (vals:List Value) (ty:TypeId),Inv ρ w0 j H w→R ρ j s us→zsV w bb o vals→RL ρ j xs vals→
  ∃ u w',(Builtin.append_ #[t,t] ty #[us,.slice (some ⟨bb,o,none⟩) n cap]).run P w= .ok u w'∧Post ρ w0 j H k u w'
theorem zxl (hi:Inv ρ w0 j H w) {rec:Task→Ob} (happ: ∀t s n xs H k,Ob.den ρ (rec (.app t s n xs H k))→Kr P ρ w0 t s n xs H k) {ts tx:TypeId} {rest:List TypeId} {s x:AV} {us ux:Value} (hs:R ρ j s us) (hx:R ρ j x ux) {ty:TypeId} (h:Ob.den ρ (KN P rec ts tx rest s x H k)):
  ∃ u w',(Builtin.append_ (ts::tx::rest).toArray ty #[us,ux]).run P w= .ok u w'∧Post ρ w0 j H k u w':=by
 unfold KN at h;split at h
 case h_2=>exact h.elim
 rename_i sz b off len cap hb he;split at h
 case h_2=>exact h.elim
 rename_i v hr;split at h
 case h_2=>exact h.elim
 rename_i hle;have hle:=yam hle;have hb:=aY hb;subst hb;obtain ⟨L,hj,_,rfl⟩:=hx;have hc: ∀i,i<len*sz→ ∃x,w.cell? ⟨L.blk,L.off+off+i,none⟩=some x∧R ρ j (v.get (off+i)) x:=fun i hi'=>by
  have h1:Nat.add off (Nat.mul len sz)=off+len*sz:=rfl;have:=hi.cell hj hr (off:=off+i) (by omega)
  rwa [←ybn] at this
 let f:Nat→Value:=fun i=>(w.cell? ⟨L.blk,L.off+off+i,none⟩).getD undef
 refine happ _ _ _ _ _ _ h j w us L.blk (L.off+off) _ ((List.range (len*sz)).map f) ty hi hs (fun i u hu=> ?_) (RL.AY (by simp [Vec.rf]) fun i a ha=> ?_)
 ·have hi':i<len*sz:=by
   have:=(yat.1 hu).1;simpa using this
  simp [hi'] at hu;obtain ⟨x,h1,_⟩:=hc i hi';rw [←hu];simp only [f,h1,ycg]
 ·have hi':i<len*sz:=by
   rcases ybU i (len*sz) with h'|h'
   ·exact h'
   ·rw [yaT (by rw [Vec.rf];exact h')] at ha;cases ha
  have ha':(v.list off (len*sz))[i]? =some a:=ha;rw [Vec.zY (len*sz) v off i hi'] at ha';obtain ⟨x,h1,h2⟩:=hc i hi';refine ⟨x,by simp [hi',f,h1],?_⟩;rw [←yaE ha'];exact h2
theorem zsL (hi:Inv ρ w0 j H w) (he:ER ρ j N env a) {rec:Task→Ob} (happ: ∀t s n xs H k,Ob.den ρ (rec (.app t s n xs H k))→Kr P ρ w0 t s n xs H k) {c:Call} (ho:o.op= .call c) (hc:c.callee= .builtin .append) (h:Ob.den ρ (JN P rec c.argTypes.toList c.args.toList env H k)):iD P ρ w0 j H w a o k Q:=by
 unfold JN at h;split at h
 case h_2=>exact h.elim
 rename_i ts tx rest s x hts hargs;obtain ⟨h0,h1⟩:=zma hts;obtain ⟨us,ux,hargs',hs,hx⟩:=KO he hargs;cases hcp:P7 P H ts tx s x with
 | none=>
  rw [hcp] at h;obtain ⟨u,w',g1,g2⟩:=zxl hi happ hs hx (ty:=o.type) h;obtain ⟨v,H',j',g3,g4,g5,g6⟩:=g2;exact .value (Hq ho hc (fun _ _ _ _=>rfl) (by rw [hargs',show c.argTypes=(ts::tx::rest).toArray by rw [←hts]];exact g1)) ⟨v,H',j',g3,g4,g5,g6⟩
 | some q=>
  obtain ⟨v,H'⟩:=q;rw [hcp] at h
  suffices hs:KF P ρ w0 j H w c.argTypes o.type us ux v H' by
   obtain ⟨u,w',j',g1,g2,g3,g4⟩:=hs;exact .value (Hq ho hc (fun _ _ _ _=>rfl) (by rw [hargs'];exact g1)) ⟨v,H',j',g2,g3,g4,h⟩
  unfold P7 at hcp;split at hcp
  case h_2=>cases hcp
  rename_i bytes sz hel hsrc;obtain ⟨e,inf,z',hu,jQ,hby,hsz,hpos,hz,hzs⟩:=znh hel;subst hby hsz;split at hcp
  ·cases hcp
  rename_i n hn;split at hcp
  ·cases hcp
  rename_i new hnew;obtain ⟨hlen,hkind⟩:=IG (P:=P) (w:=w) hx hn;have LU:(∃b n c,ux= .slice b n c)∨ ∃s,ux= .string s:=by
   rcases hkind with ⟨b,c,e⟩|⟨s,e,_⟩
   ·exact .inl ⟨b,_,c,e⟩
   ·exact .inr ⟨s,e⟩
  have hnl:=Wx hnew;have hc1:=Et (P:=P) hi hx hnew;have hc2:=Et (P:=P) hi.drew hx hnew;split at hcp
  ·rename_i hz0;split at hcp
   case h_2=>cases hcp
   rename_i hsl;cases hcp;have hfit: ∃b n c,us= .slice b n c∧n≤c:=by
    cases s<;>simp only [DJ] at hsl<;>try (cases hsl;done)
    case dz=>exact ⟨_,_,_,hs,yaa _⟩
    case sl b off len cap=>
     obtain ⟨L,_,hck,hu⟩:=hs;refine ⟨_,_,_,hu,?_⟩;cases cap with
     | known c=>exact hck
     | upto k=>obtain ⟨h1,_⟩:=hck;show len≤L.cap-k;omega
    case emp=>obtain ⟨p,c,hu⟩:=hs;exact ⟨_,_,_,hu,yar _⟩
   obtain ⟨b,sl,sc,rfl,hle⟩:=hfit;refine ⟨.slice b (sl+0) sc,w,j,H8 (ty:=o.type) (xs:= []) h0 h1 hu hsrc jQ hlen (by omega) (Uq LU) ?_,hs,hi,St.refl j H⟩;cases b with
   | none=>rfl
   | some p=>rfl
  ·rename_i _ m;unfold zyh at hcp;split at hcp
   ·
    have hs:us= .slice none 0 0:=hs;subst hs;exact Uw (old:= []) (sl:=0) (sc:=0) hi h0 h1 hu hsrc jQ hlen (by omega) hpos hz hzs (l:=new) (new:=new) (by simp) (by simp) hnl ⟨[],by rfl,rfl⟩ hc2 (by rw [yaf];exact hcp)
   ·rename_i b off len cap;obtain ⟨L,hj,hck,rfl⟩:=hs;split at hcp
    ·rename_i c';split at hcp
     ·rename_i hle;have hle:len+(m+1)≤c':=yam hle;split at hcp
      case h_2=>cases hcp
      rename_i H2 hst;cases hcp;obtain ⟨xs,hx1,hx2⟩:=hc1;obtain ⟨w',g1,g2,g3⟩:=hi.store hst hj hx2 P;refine ⟨_,w',j,H8 (ty:=o.type) h0 h1 hu hsrc jQ hlen hle hx1 (w':=w') ?_,⟨L,hj,hle,rfl⟩,g2,g3⟩;simp only [addr_add,ybn];exact g1
     ·rename_i hle;have hle: ¬len+(m+1)≤c':=fun hh=>by
       have:=yb9 hh;rw [show Nat.ble (Nat.add len (Nat.succ m)) c'=true from this] at hle;cases hle
      split at hcp
      case h_2=>cases hcp
      rename_i old hold;have hs':R ρ j (.sl b off len (.known c')) (.slice (some ⟨L.blk,L.off+off,none⟩) len c'):=⟨L,hj,hck,rfl⟩;exact Uw (old:=old) hi h0 h1 hu hsrc jQ hlen (by show c'<len+(m+1);omega) hpos hz hzs rfl (Wx hold) hnl (Et (P:=P) hi.drew hs' hold) hc2 hcp
    ·rename_i kk;exact zkl hi h0 h1 hu hsrc jQ hlen hpos hz hzs hnl hj hck (yds m) hc1 hc2 hcp
   ·cases hcp
end
end Go.Dw
namespace Go.Dw
section
variable {P:Program} {ρ:Val} {w0:Cx} {j:J} {H:Heap} {w:World} {N:Nat} {env:T AV} {a:Act} {o:Oper} {k:K} {Q:Exit→Act→World→Prop}
end
end Go.Dw
namespace Go.Dw
def Enters (P : Program) (f : FuncId) : Prop := ∃ fn c, P.funcs[f]? = some fn ∧ fn.body = some c ∧ fn.name ≠ "runtime.NumGoroutine"
def Kk (P:Program) (ρ:Val) (w0:Cx) (f:FuncId) (args:List AV) (H:Heap) (k:K):Prop:=
 ∀ (j:J) (w:World) (vals:List Value),Inv ρ w0 j H w→RL ρ j args vals→Calls P f vals.toArray w (fun e w'=> ∃u,e= .returned u∧Post ρ w0 j H k u w')
def F4:Ex→Exit
 | .normal=> .normal
 | .exit id=> .exit id
 | .ret=> .ret
def qB (ρ:Val) (w0:Cx) (j:J) (H:Heap) (N:Nat) (k:KC) (ex:Exit) (a:Act) (w:World):Prop:=
 ∃ x env' H' j',ex=F4 x∧ER ρ j' N env' a∧Inv ρ w0 j' H' w∧St j H j' H'∧Ob.den ρ (k x env' H')
def zP (ρ:Val) (w0:Cx) (j:J) (H:Heap) (N:Nat) (k:T AV→Heap→Ob) (a:Act) (w:World):Prop:=
 ∃ env' H' j',ER ρ j' N env' a∧Inv ρ w0 j' H' w∧St j H j' H'∧Ob.den ρ (k env' H')
structure Good (P:Program) (ρ:Val) (w0:Cx) (n:Nat) (rec:Task→Ob):Prop where
 app: ∀t s n xs H k,Ob.den ρ (rec (.app t s n xs H k))→Kr P ρ w0 t s n xs H k
 call: ∀f args H k,Ob.den ρ (rec (.call f args H k))→Enters P f∧Kk P ρ w0 f args H k
 code: ∀c p N env H k,bS P p=c→Ob.den ρ (rec (.code c p N env H k))→ ∀j a w,Inv ρ w0 j H w→ER ρ j N env a→c.wp P (qB ρ w0 j H N k) a w
 loop: ∀c p N env H k,bS P p= .loop c→Ob.den ρ (rec (.code (.loop c) (2::p) N env H k))→ ∀j a w,Inv ρ w0 j H w→ER ρ j N env a→Code.rounds P c (qB ρ w0 j H N k) n a w
 ops: ∀all l N env H k,Ob.den ρ (rec (.ops all l N env H k))→ ∀j a w Q,Inv ρ w0 j H w→ER ρ j N env a→(∀a' w',zP ρ w0 j H N k a' w'→Q Exit.normal a' w')→wpList P all Q l a w
section
variable {P:Program} {ρ:Val} {w0:Cx} {j:J} {H:Heap} {w:World} {N:Nat} {env:T AV} {a:Act} {o:Oper} {k:K} {Q:Exit→Act→World→Prop} {rec:Task→Ob} {n:Nat}
theorem qf (env:T AV) (t u:Nat) (v:AV):bT (env.set t v) u=if u=t then v else bT env u:=by
 unfold bT;rw [T.lC];by_cases h:u=t
 ·rw [yak h,yak h]
 ·rw [yah h,yah h]
theorem ER.same (he:ER ρ j N env a) {t:Nat} {v:AV} (ht:t<N) (hv:R ρ j v (a.tmps.getD t undef)):ER ρ j N (env.set t v) a:=by
 refine ⟨he.size,he.le,fun u hu=> ?_,?_⟩
 ·rw [qf];split
  ·rename_i e;rw [e];exact .inr hv
  ·exact he.get u hu
 ·rw [qf,yah (by have:=he.le;omega)];exact he.dH
theorem ER.put (he:ER ρ j N env a) {d:Nat} {v:AV} {u:Value} (hd:d<N) (hv:R ρ j v u):ER ρ j N (env.set d v) (a.put (some d) u):=by
 have hsz:=he.size;refine ⟨by simp [Act.put,he.size],he.le,fun t ht=> ?_,?_⟩
 ·rw [qf];split
  ·rename_i e;subst e;simp only [Act.put,yav,ycn];rw [yak (by omega)];exact .inr hv
  ·rename_i e;simp only [Act.put,yav,ycr (ycW e)];have:=he.get t ht
   rwa [yav] at this
 ·rw [qf,yah (by have:=he.le;omega)];exact he.dH
theorem VI (he:ER ρ j N env a) {dst:Option Tmp} {v:AV} {u:Value} {kk:T AV→Ob} (hv:R ρ j v u) (h:Ob.den ρ (nG dst N env v kk)):
  ∃ env',ER ρ j N env' (a.put dst u)∧Ob.den ρ (kk env'):=by
 unfold nG at h;split at h
 ·exact ⟨env,he,h⟩
 ·rename_i d;split at h
  ·rename_i hb;rw [yaD] at hb;exact ⟨_,he.put hb hv,h⟩
  ·exact h.elim
theorem OT (he:ER ρ j N env a) {t:Nat} {b:SB} (h:env.get t=some (.bool b)):t≠bN∧a.tmps[t]? =some (.bool (b.den ρ)):=by
 have hne:t≠bN:=fun e=>by
  subst e;have:=he.dH;unfold bT at this;rw [h] at this;cases hd:a.defers with
  | nil=>rw [hd] at this;cases this
  | cons d ds=>rw [hd] at this;obtain ⟨_,_,_,_,e,_⟩:=this;cases e
 refine ⟨hne,?_⟩;have:=(he.get t hne).resolve_left (by unfold bT;rw [h];simp);unfold bT at this;rw [h] at this;simp only [R,yav] at this;cases ht:a.tmps[t]? with
 | none=>rw [ht] at this;simp [undef] at this
 | some x=>rw [ht] at this;simp at this;rw [this]
def GOk (all:Array Oper) (env:T AV) (a:Act) (o:Oper):G→Prop
 | .yes=>Region.wanted o (yielded all a.tmps)=true
 | .no=>Region.wanted o (yielded all a.tmps)=false
 | .test t b _=>env.get t=some (.bool b)
 | .none=>True
theorem U8 (he:ER ρ j N env a) (all:Array Oper) (o:Oper):GOk all env a o (lV all env o):=by
 unfold lV;split
 ·rename_i hg;show Region.wanted o _=true;unfold Region.wanted;rw [hg]
 rename_i i want hg;have hw:Region.wanted o (yielded all a.tmps)=(yielded all a.tmps i==some want):=by unfold Region.wanted;rw [hg]
 split
 ·rename_i hi;show Region.wanted o _=false;rw [hw];simp [yielded,hi]
 rename_i oj hi;split
 ·rename_i hd;show Region.wanted o _=false;rw [hw];simp [yielded,hi,hd]
 rename_i t hd;have undef':(∀b,a.tmps[t]? ≠some (.bool b))→Region.wanted o (yielded all a.tmps)=false:=by
  intro hb;rw [hw];unfold yielded;rw [hi];simp only [ycA,hd];cases hx:a.tmps[t]? with
  | none=>rfl
  | some v=>cases v<;>first|rfl|exact absurd hx (hb _)
 have val: ∀b,env.get t=some (.bool b)→Region.wanted o (yielded all a.tmps)=(some (b.den ρ)==some want):=fun b hb=>by
  have:=(OT he hb).2;rw [hw];unfold yielded;rw [hi];simp only [ycA,hd,this]
 have abf: ∀c w,bT env t= .gH c w→ ∀b,a.tmps[t]? ≠some (.bool b):=fun c w h0 b hb=>by
  by_cases hne:t=bN
  ·rw [hne,ybl (by rw [he.size];exact he.le)] at hb;cases hb
  ·have:=(he.get t hne).resolve_left (by rw [h0];simp);rw [h0,yav,hb] at this;have h1:=this.1;cases h1
 have TD:bT env t= .aK []→ ∀b,a.tmps[t]? ≠some (.bool b):=fun h0 b hb=>by
  by_cases hne:t=bN
  ·rw [hne,ybl (by rw [he.size];exact he.le)] at hb;cases hb
  ·have:=(he.get t hne).resolve_left (by rw [h0];simp);rw [h0,yav,hb] at this;obtain ⟨m,e,_⟩:=this;cases e
 split
 ·rename_i h0;exact undef' (TD (by unfold bT;rw [h0];rfl))
 ·rename_i h0;have:=val _ h0;cases want
  ·show Region.wanted o _=false;rw [this];rfl
  ·show Region.wanted o _=true;rw [this];rfl
 ·rename_i h0;have:=val _ h0;cases want
  ·show Region.wanted o _=true;rw [this];rfl
  ·show Region.wanted o _=false;rw [this];rfl
 ·show env.get t=some _;assumption
 ·rename_i h0;exact undef' (TD (by unfold bT;rw [h0]))
 ·rename_i c w h0;exact undef' (abf c w (by unfold bT;rw [h0]))
 ·trivial
theorem lM {f:FuncId} (h:Enters P f) (args:Array Value):(callFunc f args).run P w= .ok (.enter f args) w:=by
 obtain ⟨fn,c,h1,h2,h3⟩:=h;simp [callFunc,h1,h2,h3]
theorem zsC {g:FuncId} {args:List AV} {vals:List Value} (hi:Inv ρ w0 j H w) (hv:RL ρ j args vals) (hen:Enters P g) (hc:Kk P ρ w0 g args H k) (hx:(execOp a.eval o).run P w=(callFunc g vals.toArray).run P w):iD P ρ w0 j H w a o k Q:=by
 unfold iD Oper.wp;rw [hx,lM hen,Oper.upon_enter];refine ya7 (hc j w vals hi hv) fun e w' he=> ?_;obtain ⟨u,rfl,hp⟩:=he;exact ⟨u,rfl,hp⟩
theorem zuR (hg:Good P ρ w0 n rec) (hi:Inv ρ w0 j H w) (he:ER ρ j N env a) {c:Call} (ho:o.op= .call c) {f:Operand} (hc:c.callee= .value f) (h:Ob.den ρ (JU rec f c.args.toList env H k)):iD P ρ w0 j H w a o k Q:=by
 unfold JU at h;split at h
 case h_2=>exact h.elim
 rename_i g first cap args hf hargs
 have hh:Ob.den ρ (rec (.call g (first++(args++cap)) H k)):=by
  split at h
  ·simpa using h
  ·exact h
 obtain ⟨l,m,LG,hl,hm⟩:=bR he hf;have ha:=JQ he hargs;obtain ⟨hen,hcall⟩:=hg.call _ _ _ _ hh;refine zsC hi (hl.append (ha.append hm)) hen hcall ?_;simp only [execOp,ho,resolve,hc,yad,LG,Deferred.ofValue,yag,yac,invoke];congr 2;apply yck;simp
theorem zpr {t:TypeId} {name:String} {g:FuncId} {n:Nat} {v:Value} (h:Py P t name=some g):(method (n+1) t v name).run P w= .ok (g,v) w:=by
 unfold Py at h;split at h
 ·cases h
 rename_i inf jQ;split at h
 ·cases h
 rename_i m hm;have ab7: ∀l,m.path.toList=l→l= []→m.path= #[]:=fun l e e'=>by apply yck;rw [e,e']
 split at h
 ·rename_i f hp hf hu;cases h;unfold method;simp only [typeInfo,yad,ycx,yac,jQ,yag,hm,hp,follow,hf,receiverAt,run_underlying hu,Place.get]
 ·cases h
 ·rename_i f d hne hp hf hu;cases h;unfold method;simp only [typeInfo,yad,ycx,yac,jQ,yag,hm,hp,follow,hf,receiverAt,run_underlying hu,Place.get]
 ·cases h
theorem zuS (hg:Good P ρ w0 n rec) (hi:Inv ρ w0 j H w) (he:ER ρ j N env a) {c:Call} (ho:o.op= .call c) {r:Operand} {name:String} (hc:c.callee= .invoke r name) (h:Ob.den ρ (JV P rec r name c.args.toList env H k)):iD P ρ w0 j H w a o k Q:=by
 unfold JV at h;split at h
 case h_2=>exact h.elim
 rename_i t v args hr hargs;split at h
 case h_2=>exact h.elim
 rename_i g SI;obtain ⟨y,sH,hy⟩:=bR he hr;have ha:=JQ he hargs;obtain ⟨hen,hcall⟩:=hg.call _ _ _ _ h;refine zsC hi (.cons hy ha) hen hcall ?_;have hm: ∀n,(method (P.types.size+Made.depth) t y name).run P n= .ok (g,y) n:=fun n=>zpr (n:=P.types.size+99) SI;simp only [execOp,ho,resolve,hc,yad,sH,yag,yac,invoke];have e0:(#[Value.iface t y]++c.args.map a.eval)[0]? =some (.iface t y):=by rw [ybL (by show 0<1;omega)];rfl
 have e1:(#[Value.iface t y]++c.args.map a.eval).extract 1 (#[Value.iface t y]++c.args.map a.eval).size=c.args.map a.eval:=by
  apply yck;simp [yb4]
 rw [e0];simp only [callMethod,yad,ycx,yac,hm,e1];congr 2;apply yck;simp
theorem zp4 (hg:Good P ρ w0 n rec) (hi:Inv ρ w0 j H w) (he:ER ρ j N env a) {c:Call} (ho:o.op= .call c) {b:Builtin} (hc:c.callee= .builtin b) (h:Ob.den ρ (Jj P rec b c env H k)):iD P ρ w0 j H w a o k Q:=by
 cases b<;>simp only [Jj] at h<;>first
  | exact zsL hi he hg.app ho hc h
  | exact zxc hi he ho hc h
  | exact zsk hi he ho hc h
  | exact h.elim
theorem Y1 (hg:Good P ρ w0 n rec) (hi:Inv ρ w0 j H w) (he:ER ρ j N env a) (h:Ob.den ρ (heavy P rec o.op env H k)):iD P ρ w0 j H w a o k Q:=by
 cases ho:o.op<;>rw [ho] at h<;>simp only [heavy] at h<;>try (exact h.elim)
 case insert=>exact XW hi he (.inr ho) h
 case store=>exact zs4 hi he ho h
 case mapUpdate=>exact XW hi he (.inl ho) h
 case mapEntry=>exact zm0 hi he ho h
 case entryStore=>exact zka hi he ho h
 case call c=>
  unfold QW at h;cases hc:c.callee<;>rw [hc] at h
  case value f=>exact zuR hg hi he ho hc h
  case invoke r name=>exact zuS hg hi he ho hc h
  case builtin b=>exact zp4 hg hi he ho hc h
def QY (ρ:Val) (w0:Cx) (j:J) (H:Heap) (N:Nat) (dst:Option Tmp) (k:K3) (a':Act) (w':World):Prop:=
 ∃ KV v a1 u H' j',a'=a1.put dst u∧ER ρ j' N KV a1∧R ρ j' v u∧Inv ρ w0 j' H' w'∧St j H j' H'∧Ob.den ρ (k KV v H')
theorem iD.MQ {k:K3} (he:ER ρ j N env a) (h:iD P ρ w0 j H w a o (k env) Q):o.wp P a w (QY ρ w0 j H N o.dst k) Q:=by
 refine Oper.wp_mono (fun a' w' hp=> ?_) h;obtain ⟨u,rfl,v,H',j',h1,h2,h3,h4⟩:=hp;exact ⟨env,v,a,u,H',j',rfl,he.mono h3.sub,h1,h2,h3,h4⟩
theorem zuF (hi:Inv ρ w0 j H w) (he:ER ρ j N env a) {k:K3} (h:Ob.den ρ (PZ rec o env H k)):o.wp P a w (QY ρ w0 j H N o.dst k) Q:=by
 unfold PZ at h;split at h
 case h_2=>exact h.elim
 rename_i c ho;split at h
 case h_2=>exact h.elim
 rename_i f hc;split at h
 case h_2=>exact h.elim
 rename_i g first cap args hf hargs
 obtain ⟨l,m,LG,hl,hm⟩:=bR he hf;have ha:=JQ he hargs;have hx:(execOp a.eval o).run P w= .ok (.defer { target:= .fn (.func g) m.toArray,args:=l.toArray++c.args.map a.eval }) w:=by
  simp only [execOp,ho,resolve,hc,yad,LG,Deferred.ofValue,yag,yac]
 unfold Oper.wp;rw [hx,Oper.upon_defer];refine ⟨_,_,_,undef,H,j,rfl,⟨he.size,he.le,fun t ht=> ?_,?_⟩,rJ,hi,St.refl j H,h⟩
 ·rw [qf,yah ht];exact he.get t ht
 ·rw [qf,yak rfl];refine ⟨g,_,bT env bN,m.toArray,rfl,rfl,?_,he.dH⟩;have:(l.toArray++c.args.map a.eval++m.toArray).toList=l++((c.args.map a.eval).toList++m):=by simp
  rw [this];exact hl.append (ha.append hm)
theorem zw6 (hg:Good P ρ w0 n rec) (hi:Inv ρ w0 j H w) (he:ER ρ j N env a) {k:K3} (h:Ob.den ρ (vS P rec o env H k)):o.wp P a w (QY ρ w0 j H N o.dst k) Q:=by
 unfold vS at h;cases hc:oZ o.op<;>rw [hc] at h
 case light=>exact (zug hi he (k:=k env) h).MQ he
 case alloc=>exact (zuW hi he (k:=k env) h).MQ he
 case heavy=>exact (Y1 hg hi he (k:=k env) h).MQ he
 case FY=>exact zuF hi he h
theorem zP.later {j':J} {H':Heap} {k:T AV→Heap→Ob} {a':Act} {w':World} (hs:St j H j' H') (h:zP ρ w0 j' H' N k a' w'):zP ρ w0 j H N k a' w':=by
 obtain ⟨env',H2,j2,h1,h2,h3,h4⟩:=h;exact ⟨env',H2,j2,h1,h2,hs.trans h3,h4⟩
theorem zxZ (hg:Good P ρ w0 n rec) {all:Array Oper} {l:List Oper} {k:T AV→Heap→Ob} (h:Ob.den ρ (PI P rec all l N env H k)) (hi:Inv ρ w0 j H w) (he:ER ρ j N env a)
  (hQ: ∀a' w',zP ρ w0 j H N k a' w'→Q Exit.normal a' w'):wpList P all Q l a w:=by
 unfold PI at h;split at h
 ·exact hQ a w ⟨env,H,j,he,hi,St.refl j H,h⟩
 ·rename_i o rest;have hgu:=U8 he all o;unfold wpList;split at h
  ·rename_i hy;rw [hy] at hgu;have hgu:Region.wanted o (yielded all a.tmps)=true:=hgu;rw [yak hgu];refine .inl (Oper.wp_mono (fun a' w' hp=> ?_) (zw6 hg hi he h));obtain ⟨KV,v,a1,u,H',j',rfl,h1,h2,h3,h4,h5⟩:=hp;obtain ⟨Cy,h6,h7⟩:=VI h1 h2 h5;exact hg.ops _ _ _ _ _ _ h7 j' _ _ Q h3 h6 fun a' w' hh=>hQ _ _ (hh.later h4)
  ·rename_i hy;rw [hy] at hgu;have hgu:Region.wanted o (yielded all a.tmps)=false:=hgu;rw [hgu,yah (by simp)];obtain ⟨Cy,h6,h7⟩:=VI he rJ h;exact hg.ops _ _ _ _ _ _ h7 j _ _ Q hi h6 hQ
  ·rename_i t b _ hy;rw [hy] at hgu;split at h
   case h_2=>exact h.elim
   rename_i hb;rw [yaD] at hb;have hgu:env.get t=some (.bool b):=hgu;obtain ⟨hne,htm⟩:=OT he hgu;have hval:a.tmps.getD t undef= .bool (b.den ρ):=by rw [yav,htm];rfl
   cases hbv:b.den ρ with
   | true=>exact hg.ops _ (o::rest) _ _ _ _ (h.1 hbv) j _ _ Q hi (he.same hb (by rw [hval,hbv];rfl)) hQ
   | false=>exact hg.ops _ (o::rest) _ _ _ _ (h.2 hbv) j _ _ Q hi (he.same hb (by rw [hval,hbv];rfl)) hQ
  ·exact h.elim
theorem qB.later {j':J} {H':Heap} {k:KC} {ex:Exit} {a':Act} {w':World} (hs:St j H j' H') (h:qB ρ w0 j' H' N k ex a' w'):qB ρ w0 j H N k ex a' w':=by
 obtain ⟨x,env',H2,j2,h0,h1,h2,h3,h4⟩:=h;exact ⟨x,env',H2,j2,h0,h1,h2,hs.trans h3,h4⟩
theorem zs1 (hg:Good P ρ w0 n rec) {b:Code} {p:List Nat} (hb:bS P p=b) {k:KC} {ex:Exit} {a':Act} {w':World} (h:qB ρ w0 j H N (Kl rec b p N k) ex a' w'):Exit.then (b.wp P (qB ρ w0 j H N k)) (qB ρ w0 j H N k) ex a' w':=by
 obtain ⟨x,env',H2,j2,rfl,h1,h2,h3,h4⟩:=h;cases x with
 | normal=>exact ybu (hg.code _ _ _ _ _ _ hb h4 j2 _ _ h2 h1) fun e a w hh=>hh.later h3
 | exit id=>exact ⟨.exit id,env',H2,j2,rfl,h1,h2,h3,h4⟩
 | ret=>exact ⟨.ret,env',H2,j2,rfl,h1,h2,h3,h4⟩
theorem Ve {c:Code} {Q Q':Exit→Act→World→Prop} (hq: ∀e a w,Q e a w→Q' e a w): ∀(n:Nat) (a:Act) (w:World),Code.rounds P c Q n a w→Code.rounds P c Q' n a w
 | 0,_,_,h=>h
 | n+1,_,_,h=>ybu h fun e a w hh=>by
   cases e with
   | normal=>exact Ve hq n a w hh
   | _=>exact hq _ _ _ hh
theorem uR {p:List Nat} {i:Nat} {c:Code} (h:bS P p=c) (hc:c≠ .skip):bS P (i::p)=ax i c:=by
 cases p with
 | nil=>exact absurd h.symm hc
 | cons q l=>rw [←h];rfl
theorem zm2 {p:List Nat} {c:Code} (h:bS P p= .loop c):bS P (BM p)= .loop c:=by
 unfold BM;split
 ·rename_i i q;have h:ax 2 (bS P (i::q))= .loop c:=h;cases hx:bS P (i::q)<;>rw [hx] at h<;>simp only [ax] at h<;>first|exact h|cases h
 ·exact h
def vC (ρ:Val) {α:Type}:List (SB×α)→Option α
 | [] => none
 | e::l=>match e.1 with
  | .lit true=>some e.2
  | b=>if b.den ρ=true then some e.2 else vC ρ l
theorem OM {k:KC}: ∀ {l:FT} {x:Ex} {env':T AV} {H':Heap},Ob.den ρ (FL k l)→vC ρ l=some (x,env',H')→Ob.den ρ (k x env' H')
  | [], _,_,_,h,_=>h.elim
  | (b,x0,e0,H0)::l,x,env',H',h,hp=>by
    unfold FL at h;unfold vC at hp;split at h
    · cases hp;exact h
    · rename_i hb;split at hp
      · rename_i h1;exact absurd h1 hb
      · simp only at hp;split at hp
        · rename_i ht;cases hp;exact h.1 ht
        · rename_i ht;exact OM (h.2 (by simpa using ht)) hp
def QD (P:Program) (ρ:Val) (w0:Cx) (pG:xQ):Prop:=
 ∀ t s n xs H q,pG t s n xs H=some q→ ∀k,Ob.den ρ (k q.1 q.2)→Kr P ρ w0 t s n xs H k
theorem zx3:QD P ρ w0 TA:=fun _ _ _ _ _ _ h=>by cases h
def Kj (P:Program) (ρ:Val) (w0:Cx) (jh:qC):Prop:=
 (∀ p N env H,jh (2::p) N env H=none)∧ ∀p N env H l c,bS P p=c→jh p N env H=some l→ ∀j a w,Inv ρ w0 j H w→ER ρ j N env a→
  c.wp P (fun ex a' w'=> ∃x env' H' j',vC ρ l=some (x,env',H')∧ex=F4 x∧ER ρ j' N env' a'∧Inv ρ w0 j' H' w'∧St j H j' H') a w
theorem zx2:Kj P ρ w0 TB:=⟨fun _ _ _ _=>rfl,fun _ _ _ _ _ _ _ h=>by cases h⟩
theorem zrK (hg:Good P ρ w0 n rec) {c:Code} {p:List Nat} {k:KC} (hc:bS P p= .loop c) (h:Ob.den ρ (rec (.code c (0::BM p) N env H (Kl rec (.loop c) (2::BM p) N k)))) (hi:Inv ρ w0 j H w) (he:ER ρ j N env a):Code.rounds P c (qB ρ w0 j H N k) (n+1) a w:=by
 have hb:=zm2 hc;refine ybu (hg.code _ _ _ _ _ _ (by rw [uR hb (by simp)];rfl) h j a w hi he) fun ex a' w' hh=> ?_;obtain ⟨x,env',H2,j2,rfl,h1,h2,h3,h4⟩:=hh;cases x with
 | normal=>exact Ve (fun e a w hh=>hh.later h3) n _ _ (hg.loop _ _ _ _ _ _ hb h4 j2 _ _ h2 h1)
 | exit id=>exact ⟨.exit id,env',H2,j2,rfl,h1,h2,h3,h4⟩
 | ret=>exact ⟨.ret,env',H2,j2,rfl,h1,h2,h3,h4⟩
def Ki (P:Program) (ρ:Val) (w0:Cx) (rec:Task→Ob):Prop:=
 ∀ (id:Nat) (ops:Array Oper) (N:Nat) (env:T AV) (H:Heap) (k:KC) (j:J) (a:Act) (w:World),Ob.den ρ (PU P id ops true rec [] N env H k)→Inv ρ w0 j H w→ER ρ j N env a→(Code.region id ops true).wp P (qB ρ w0 j H N k) a w
theorem zxe {jh:qC} (hlo:Kj P ρ w0 jh) (hg:Good P ρ w0 n rec) (hp:Ki P ρ w0 rec) {c:Code} {p:List Nat} {k:KC} (hc:bS P p=c) (h:Ob.den ρ (Pf P jh rec c p N env H k)) (hi:Inv ρ w0 j H w) (he:ER ρ j N env a):c.wp P (qB ρ w0 j H N k) a w:=by
 cases c<;>simp only [Pf] at h<;>try (exact h.elim)
 case skip=>exact wp_skip ⟨.normal,env,H,j,rfl,he,hi,St.refl j H,h⟩
 case region id ops draw=>
  cases draw with
  | false=>
   refine wp_region_list (hg.ops _ _ _ _ _ _ h j a w _ hi he fun a' w' hh=> ?_);obtain ⟨env',H',j',h1,h2,h3,h4⟩:=hh;exact ⟨.normal,env',H',j',rfl,h1,h2,h3,h4⟩
  | true=>exact hp _ _ _ _ _ _ _ _ _ h hi he
 case seq x y=>
  unfold zxF at h;split at h
  ·rename_i l hl;refine ybu (hlo.2 _ _ _ _ _ _ hc hl j a w hi he) fun ex a' w' hh=> ?_;obtain ⟨x,env',H',j',h1,h2,h3,h4,h5⟩:=hh;exact ⟨x,env',H',j',h2,h3,h4,h5,OM h h1⟩
  unfold TS at h;exact wp_seq (ybu (hg.code _ _ _ _ _ _ (by rw [uR hc (by simp)];rfl) h j a w hi he) fun ex a' w' hh=>zs1 hg (by rw [uR hc (by simp)];rfl) hh)
 case cond c x y=>
  unfold zxH at h;split at h
  case h_2=>exact h.elim
  rename_i s hs;have hv:=bR he hs;split at h
  ·exact wp_cond_true hv (hg.code _ _ _ _ _ _ (by rw [uR hc (by simp)];rfl) h j a w hi he)
  ·exact wp_cond_false hv (hg.code _ _ _ _ _ _ (by rw [uR hc (by simp)];rfl) h j a w hi he)
  ·split at h
   case h_2=>exact h.elim
   rename_i t;split at h
   case h_2=>exact h.elim
   rename_i hb;rw [yaD] at hb;have hval:a.tmps.getD t undef= .bool (s.den ρ):=hv;refine wp_cond_split hv (fun hbv=> ?_) (fun hbv=> ?_)
   ·exact hg.code _ _ _ _ _ _ (by rw [uR hc (by simp)];rfl) (h.1 hbv) j a w hi (he.same hb (by rw [hval,hbv];rfl))
   ·exact hg.code _ _ _ _ _ _ (by rw [uR hc (by simp)];rfl) (h.2 hbv) j a w hi (he.same hb (by rw [hval,hbv];rfl))
 case block id c=>
  refine wp_block (ybu (hg.code _ _ _ _ _ _ (by rw [uR hc (by simp)];rfl) h j a w hi he) fun ex a' w' hh=> ?_);obtain ⟨x,env',H2,j2,rfl,h1,h2,h3,h4⟩:=hh;cases x with
  | normal=>exact ⟨.normal,env',H2,j2,rfl,h1,h2,h3,h4⟩
  | exit id'=>
   unfold zvt at h4;show if id'=id then _ else _
   simp only at h4;split at h4
   ·rename_i hb;rw [yak (aY hb)];exact ⟨.normal,env',H2,j2,rfl,h1,h2,h3,h4⟩
   ·rename_i hb;rw [yah (fun e=>by subst e;rw [yb7] at hb;cases hb)];exact ⟨.exit id',env',H2,j2,rfl,h1,h2,h3,h4⟩
  | ret=>exact ⟨.ret,env',H2,j2,rfl,h1,h2,h3,h4⟩
 case loop c=>
  unfold Ko at h;split at h
  ·rename_i l hl;refine ybu (hlo.2 _ _ _ _ _ _ hc hl j a w hi he) fun ex a' w' hh=> ?_;obtain ⟨x,env',H',j',h1,h2,h3,h4,h5⟩:=hh;exact ⟨x,env',H',j',h2,h3,h4,h5,OM h h1⟩
  ·exact wp_loop_rounds (n+1) (zrK hg hc h hi he)
 case exit id=>exact wp_exit ⟨.exit id,env,H,j,rfl,he,hi,St.refl j H,h⟩
 case label l=>exact wp_label ⟨.normal,env,H,j,rfl,he,hi,St.refl j H,h⟩
 case ret=>exact wp_ret ⟨.ret,env,H,j,rfl,he,hi,St.refl j H,h⟩
def FI (tmps:Array Value):ResultVar→Sem Value
 | .tmp t=>pure (tmps.getD t undef)
 | .cell b t=>do loadVar t (←asAddr (tmps.getD b undef))
theorem zpx (fn:Func) (tmps:Array Value):results fn tmps=(do let vs←fn.results.mapM (FI tmps);pure (if h:vs.size=1 then vs[0] else .tuple vs)):=by
 unfold results;congr 2
theorem Iq (hi:Inv ρ w0 j H w) (he:ER ρ j N env a): ∀ {l:List ResultVar} {vs:List AV},zn P H env l=some vs→
    ∃ us:List Value,(l.mapM (FI a.tmps)).run P w= .ok us w∧RL ρ j vs us
  | [], vs,h=>by
    unfold zn at h;cases h;exact ⟨[],by simp,rfl⟩
  | .tmp t::l,vs,h=>by
    unfold zn at h;split at h
    case h_2=>cases h
    rename_i v m hv hm;cases h;obtain ⟨us,h1,h2⟩:=Iq hi he hm;have h3:=bR he hv;refine ⟨a.tmps.getD t undef::us,?_,.cons h3 h2⟩;simp only [ydQ,FI,yad,yag,yac,h1]
  | .cell b t::l,vs,h=>by
    unfold zn at h;split at h
    case h_2=>cases h
    rename_i v m hv hm;cases h;obtain ⟨us,h1,h2⟩:=Iq hi he hm;obtain ⟨u, h3, h4⟩ := Oh (o := { dst := none, op := .load t (.tmp b), type := t, pos := "", after := #[], guard := none }) hi he hv
    have h5:(do loadVar t (←asAddr (a.tmps.getD b undef)):Sem Value).run P w= .ok u w:=by
      have h3:(Instr.loadAt t (a.tmps.getD b undef)).run P w= .ok u w:=by
        simp only [execOp,yad] at h3;change ((Instr.loadAt t (a.tmps.getD b undef)).run P w).andThen _=_ at h3;cases hr:(Instr.loadAt t (a.tmps.getD b undef)).run P w with
        | ok u' w'=>rw [hr] at h3;simp only [yac,yag] at h3;cases h3;rfl
        | halt x w'=>rw [hr] at h3;cases h3
      generalize a.tmps.getD b undef=q at h3 ⊢;unfold Instr.loadAt at h3;cases q<;>first|(simp [Instr.sureAddr,stuck,yad,Sem.run,Result.andThen] at h3;done)|skip
      rename_i p;cases p with
      | none=>simp [Instr.sureAddr,stuck,yad,Sem.run,Result.andThen] at h3
      | some p=>simpa [Instr.sureAddr,asAddr,yad] using h3
    refine ⟨u::us,?_,.cons h4 h2⟩;have h5:(FI a.tmps (.cell b t)).run P w= .ok u w:=h5;simp only [ydQ,yad,h5,yag,yac,h1]
theorem zqT (hi:Inv ρ w0 j H w) (he:ER ρ j N env a) {fn:Func} {v:AV} (h:Po P fn H env=some v): ∃u,(results fn a.tmps).run P w= .ok u w∧R ρ j v u:=by
 unfold Po at h;have key: ∀us:List Value,(fn.results.toList.mapM (FI a.tmps)).run P w= .ok us w→
   (results fn a.tmps).run P w= .ok (if h:us.length=1 then us[0] else .tuple us.toArray) w:=fun us hu=>by
  rw [zpx,ydU,map_eq_pure_bind];simp only [yad,hu,yac,yag];simp
 split at h
 ·rename_i v' hv;cases h;obtain ⟨us,h1,h2⟩:=Iq hi he hv;obtain ⟨u,m,rfl,h3,h4⟩:=h2;have e:m= []:=h4;subst e;exact ⟨u,by rw [key _ h1];rfl,h3⟩
 ·rename_i l hne hv;cases h;obtain ⟨us,h1,h2⟩:=Iq hi he hv;have hlen:=h2.length;refine ⟨_,key _ h1,?_⟩;rw [ydD (fun e=>by
   rw [hlen] at e
   match l,e with
   | [x],_=>exact hne x rfl)]
  exact ⟨us,rfl,h2⟩
 ·cases h
theorem ND: ∀(l:List AV) (i:Nat) (env:T AV) (t:Nat),bT (xM l i env) t=if i≤t then (match l[t-i]? with|some v=>v|none=>bT env t) else bT env t
 | [], i,env,t=>by simp [xM]
 | a::l,i,env,t=>by
  unfold xM;rw [ND l (Nat.succ i) (env.set i a) t,qf];by_cases h1:i+1≤t
  ·rw [yak (show Nat.succ i≤t from h1),yak (show i≤t by omega),yah (show¬t=i by omega)];obtain ⟨d,hd⟩: ∃d,t-i=d+1:=⟨t-i-1,by omega⟩;rw [hd,yaG,show t-Nat.succ i=d by omega]
  ·rw [yah (show¬Nat.succ i≤t from h1)];by_cases h2:t=i
   ·subst h2;simp
   ·rw [yah h2,yah (show¬i≤t by omega)]
theorem UY (t:Nat):bT .leaf t=jb:=rfl
theorem Y5 {args:List AV} {vals:List Value} {m:Nat} (hv:RL ρ j args vals) (h1:args.length≤m) (h2:m≤bN):ER ρ j m (xM args 0 .leaf) { tmps:=vals.toArray++Array.replicate (m-vals.toArray.size) undef,defers:= [] }:=by
 have hl:=hv.length;refine ⟨by simp [hl];omega,h2,fun t ht=> ?_,?_⟩
 ·rw [ND,yak (yar t),ycK,UY];cases ha:args[t]? with
  | some v=>
   obtain ⟨u,h3,h4⟩:=hv.get t v ha;have:t<vals.toArray.size:=by have:=(yat.1 h3).1;simpa using this
   rw [yav,ybL this,yay,h3];exact .inr h4
  | none=>
   have:vals.toArray.size≤t:=by have:=List.getElem?_eq_none_iff.1 ha;simp;omega
   rw [yav,ydL this,ydY];have e:(if t-vals.toArray.size<m-vals.toArray.size then some undef else none).getD undef=undef:=by split<;>rfl
   rw [e];exact .inr rJ
 ·show DR ρ j (bT (xM args 0 .leaf) bN) [];rw [ND,yak (yar _),ycK,UY,yaT (by omega)];rfl
theorem Xv {f : FuncId} {fn : Func} {c : Code} (h : Ch P f = some (fn, c)) : P.funcs[f]? = some fn ∧ fn.body = some c ∧ fn.name ≠ "runtime.NumGoroutine" := by
  unfold Ch at h;split at h
  · cases h
  rename_i fn' hf;split at h
  · cases h
  rename_i c' hc;split at h
  · cases h
  rename_i hn;cases h;exact ⟨hf,hc,hn⟩
theorem YO {f:FuncId} {fn:Func} {c:Code} (h:Ch P f=some (fn,c)):bS P [f]=c:=by
 unfold bS;simp only [h]
theorem O8 (hi:Inv ρ w0 j H w) (he:ER ρ j N env a) {fn:Func} {k:K} (h:Ob.den ρ (leave P fn env k H)): ∃u v,(results fn a.tmps).run P w= .ok u w∧R ρ j v u∧Ob.den ρ (k v H):=by
 unfold leave at h;split at h
 case h_2=>exact h.elim
 rename_i v hv;obtain ⟨u,h1,h2⟩:=zqT hi he hv;exact ⟨u,v,h1,h2,h⟩
theorem DR.none {v:AV} {ds:List Deferred} (h:DR ρ j v ds) (hv:v=jb):ds= []:=by
 cases ds with
 | nil=>rfl
 | cons d ds=>obtain ⟨_,_,_,_,e,_⟩:=h;rw [hv] at e;cases e
theorem Xn (hg:Good P ρ w0 n rec) {fn:Func} {tmps:Array Value} {R':Ending→World→Prop} {fin:Heap→Ob}: ∀(m:Nat) (d:AV) (ds:List Deferred) (j:J) (H:Heap) (w:World),
  Ob.den ρ (Bt P rec fin m d H)→DR ρ j d ds→Inv ρ w0 j H w→(∀j' H' w',Inv ρ w0 j' H' w'→St j H j' H'→Ob.den ρ (fin H')→ ∃v,(results fn tmps).run P w'= .ok v w'∧R' (.returned v) w')→Leaves P fn tmps R' ds .returning w
 | 0,d,ds,j,H,w,h,_,_,_=>h.elim
 | m+1,d,ds,j,H,w,h,hd,hi,hfin=>by
  unfold Bt at h;cases ds with
  | nil=>
   have e:d= .aK []:=hd;subst e;exact hfin j H w hi (St.refl j H) h
  | cons d' ds=>
   obtain ⟨g,args,rest,cap,rfl,htar,hargs,hrest⟩:=hd;simp only at h;split at h
   ·exact h.elim
   rename_i fn' c hb;obtain ⟨h1,h2,h3⟩:=Xv hb;split at h
   case h_2=>exact h.elim
   rename_i hsz;rw [ybd] at hsz;have hs1:=yam hsz.1;have hs2:=yam hsz.2;have hwp:=hg.code _ _ _ _ _ _ (YO hb) h j { tmps:=(d'.args++cap).toList.toArray++Array.replicate (fn'.ntmps-(d'.args++cap).toList.toArray.size) undef,defers:= [] } w hi (Y5 hargs hs1 hs2);refine ⟨by simp,.func g,cap,g,(d'.args++cap).toList.toArray,htar,?_,?_⟩
   ·rw [htar];simp only [invoke];exact lM ⟨fn',c,h1,h2,h3⟩ _
   ·refine CallsD.mono (callsD_of_wp (u:= .returning) (R:=fun e w'=>match e with| .returned _=>Leaves P fn tmps R' ds .returning w'|_=>False) h1 h2 (ybu hwp fun ex a' w' hh=> ?_)) (fun e u' w' hh=> ?_)
    ·obtain ⟨x,env',H2,j2,rfl,g1,g2,g3,g4⟩:=hh;have fine: ∀(_:Ob.den ρ (match env'.get bN with|none=>leave P fn' env' (fun _ H'=>Bt P rec fin m rest H') H2|some _=> .bad 57 fn'.name)),
       a'.defers= []∧ ∃v,(results fn' a'.tmps).run P w'= .ok v w'∧Leaves P fn tmps R' ds .returning w':=by
      intro g4;split at g4
      case h_2=>exact g4.elim
      rename_i hnone;obtain ⟨u,v,q1,q2,q3⟩:=O8 g2 g1 g4;refine ⟨g1.dH.none (by unfold bT;rw [hnone]),u,q1,?_⟩;exact Xn hg m rest ds j2 H2 w' q3 (hrest.mono g3.sub) g2 fun j' H' w'' e1 e2 e3=>hfin j' H' w'' e1 (g3.trans e2) e3
     cases x with
     | normal=>exact fine g4
     | exit id=>exact g4.elim
     | ret=>exact fine g4
    ·obtain ⟨rfl,hh⟩:=hh;cases e with
     | returned v=>exact hh
     | panicked c=>exact hh.elim
     | outgrown=>exact hh.elim
def xP (P:Program) (ρ:Val) (w0:Cx) (fP:FuncId→List AV→Heap→Option (List (AV×Heap))):Prop:=
 ∀ f args H l,fP f args H=some l→Enters P f∧ ∀k,Ob.den ρ (zsa k l)→Kk P ρ w0 f args H k
theorem zsB (hg:Good P ρ w0 n rec) {fP:FuncId→List AV→Heap→Option (List (AV×Heap))} (hor:xP P ρ w0 fP) {f:FuncId} {args:List AV} (h:Ob.den ρ (Pg P fP rec f args H k)):Enters P f∧Kk P ρ w0 f args H k:=by
 unfold Pg at h;split at h
 ·rename_i l hl;exact ⟨(hor _ _ _ _ hl).1,(hor _ _ _ _ hl).2 k h⟩
 split at h
 ·exact h.elim
 rename_i fn c hb;obtain ⟨h1,h2,h3⟩:=Xv hb;split at h
 case h_2=>exact h.elim
 rename_i hsz;rw [ybd] at hsz;have hs1:=yam hsz.1;have hs2:=yam hsz.2;refine ⟨⟨fn,c,h1,h2,h3⟩,fun j w vals hi hv=> ?_⟩;refine calls_of_wp_defers h1 h2 (ybu (hg.code _ _ _ _ _ _ (YO hb) h j _ w hi (Y5 hv hs1 hs2)) fun ex a' w' hh=> ?_);obtain ⟨x,env',H2,j2,rfl,g1,g2,g3,g4⟩:=hh;have fine: ∀(_:Ob.den ρ (match env'.get bN with|none=>leave P fn env' k H2|some d=>Bt P rec (leave P fn env' k) 8 d H2)),
   Leaves P fn a'.tmps (fun e w'=> ∃u,e= .returned u∧Post ρ w0 j H k u w') a'.defers .returning w':=by
  intro g4;split at g4
  ·rename_i hnone;obtain ⟨u,v,q1,q2,q3⟩:=O8 g2 g1 g4;rw [g1.dH.none (by unfold bT;rw [hnone])];exact ⟨u,q1,u,rfl,v,H2,j2,q2,g2,g3,q3⟩
  ·rename_i d hd;refine Xn hg 8 d a'.defers j2 H2 w' g4 (by have:=g1.dH;unfold bT at this;rw [hd] at this;exact this) g2 fun j' H' w'' e1 e2 e3=> ?_;obtain ⟨u,v,q1,q2,q3⟩:=O8 e1 (g1.mono e2.sub) e3;exact ⟨u,q1,u,rfl,v,H',j',q2,e1,g3.trans e2,q3⟩
 cases x with
 | normal=>exact fine g4
 | exit id=>exact g4.elim
 | ret=>exact fine g4
theorem OZ {fP:FuncId→List AV→Heap→Option (List (AV×Heap))} {jh:qC} {pG:xQ} (hor:xP P ρ w0 fP) (hlo:Kj P ρ w0 jh) (hao:QD P ρ w0 pG) (hp: ∀n rec,Good P ρ w0 n rec→Ki P ρ w0 rec): ∀n,Good P ρ w0 n (kH P fP jh pG n)
 | 0=>⟨fun _ _ _ _ _ _ h=>h.elim,fun _ _ _ _ h=>h.elim,fun _ _ _ _ _ _ _ h=>h.elim,fun _ _ _ _ _ _ _ h=>h.elim,fun _ _ _ _ _ _ h=>h.elim⟩
 | n+1=>by
  have ih:=OZ hor hlo hao hp n;refine ⟨fun t s n xs H k h=> ?_,fun f args H k h=>zsB ih hor h,fun c p N env H k hc h j a w hi he=>zxe hlo ih (hp n _ ih) hc h hi he,fun c p N env H k hc h j a w hi he=> ?_,fun all l N env H k h j a w Q hi he hQ=>zxZ ih h hi he hQ⟩
  ·have h:Ob.den ρ (PK pG t s n xs H k):=h;unfold PK at h;split at h
   ·rename_i q hq;exact hao _ _ _ _ _ _ hq k h
   ·exact h.elim
  have h:Ob.den ρ (Ko jh c (kH P fP jh pG n) (2::p) N env H k):=h;unfold Ko at h;rw [hlo.1] at h;exact zrK ih (p:=2::p) (by rw [uR hc (by simp)];rfl) h hi he
theorem JC {fP:FuncId→List AV→Heap→Option (List (AV×Heap))} (hor:xP P ρ w0 fP) (hp: ∀n rec,Good P ρ w0 n rec→Ki P ρ w0 rec) (n:Nat):Good P ρ w0 n (ev P fP n):=OZ hor zx2 zx3 hp n
end
end Go.Dw
namespace Go.Dw
section
variable {P:Program} {ρ:Val} {w0:Cx} {j:J} {H:Heap} {w:World} {N:Nat} {env env':T AV} {a:Act} {o:Oper}
theorem IE: ∀ {l:List Operand},(∀x∈l,aR env x=aR env' x)→jY env l=jY env' l
 | [], _=>rfl
 | x::l,h=>by
  unfold jY;rw [h x (ya0 ..),IE fun y hy=>h y (ya3 _ hy)]
theorem uQ {x:Operand} (h:aR env x=aR env' x):nE env x=nE env' x:=by unfold nE;rw [h]
theorem Oy {x:Option Operand} {d:Nat} (h: ∀y,x=some y→aR env y=aR env' y):oI env x d=oI env' x d:=by
 cases x with
 | none=>rfl
 | some y=>exact uQ (h y rfl)
theorem NT: ∀ {l:List (Nat×Operand)},(∀p∈l,aR env p.2=aR env' p.2)→partsOf env l=partsOf env' l
  | [], _=>rfl
  | (i,x)::l,h=>by
    unfold partsOf;rw [h (i,x) (ya0 ..),NT fun y hy=>h y (ya3 _ hy)]
theorem zm7 {c:Call} (h: ∀x∈c.operands,aR env x=aR env' x):vE P c env H=vE P c env' H:=by
 have ha: ∀x∈c.args.toList,aR env x=aR env' x:=fun x hx=>h x (by
  have:x∈c.args:=by simpa using hx
  unfold Call.operands;split<;>simp [this])
 unfold vE;cases hc:c.callee<;>first|rfl|skip
 rename_i b;cases b<;>first|rfl|skip
 all_goals simp only [yM]
 all_goals (split<;>first|rfl|skip)
 all_goals (rename_i hx;first|rw [ha _ (by rw [hx];exact ya0 ..),ha _ (by rw [hx];exact ya3 _ (ya0 ..))]|rw [ha _ (by rw [hx];exact ya0 ..)])
theorem UK {len cap:Nat} {lo hi mx:Option Operand} (h1: ∀y,lo=some y→aR env y=aR env' y) (h2: ∀y,hi=some y→aR env y=aR env' y) (h3: ∀y,mx=some y→aR env y=aR env' y):
  bounds env len cap lo hi mx=bounds env' len cap lo hi mx:=by
 have e1:oI env lo 0=oI env' lo 0:=Oy h1;unfold bounds;cases mx<;>cases hi<;>simp only [e1]
 all_goals first
  | rfl
  | rw [uQ (h2 _ rfl),uQ (h3 _ rfl)]
  | rw [uQ (h3 _ rfl)]
  | rw [Oy h2]
theorem zkC {t:TypeId} {v:AV} {lo hi mx:Option Operand} (h1: ∀y,lo=some y→aR env y=aR env' y) (h2: ∀y,hi=some y→aR env y=aR env' y) (h3: ∀y,mx=some y→aR env y=aR env' y):
  Ce P env t v lo hi mx=Ce P env' t v lo hi mx:=by
 have hb: ∀len cap,bounds env len cap lo hi mx=bounds env' len cap lo hi mx:=fun _ _=>UK h1 h2 h3;have hn: ∀len cap,bounds env len cap lo hi none=bounds env' len cap lo hi none:=fun _ _=>UK h1 h2 (fun _ e=>by cases e);have hs: ∀s b off len cap,Fj env s b off len cap lo hi mx=Fj env' s b off len cap lo hi mx:=by
  intro s b off len cap;unfold Fj;have hS: ∀c,BZ env c lo hi=BZ env' c lo hi:=fun c=>by
   unfold BZ;rw [Oy h1];cases oI env' lo 0<;>cases hi<;>try rfl
   rename_i y;simp only;rw [h2 y rfl]
  cases cap<;>simp only [hb,hn,hS]
 unfold Ce;cases v<;>simp only [hb,hn,hs]
theorem U4 {op:Op} (h: ∀x∈op.operands,aR env x=aR env' x):light P op env H=light P op env' H:=by
 cases op<;>simp only [light]<;>first|rfl|skip
 all_goals simp only [Op.operands] at h
 case move x=>exact h x (by simp)
 case assign x=>exact h x (by simp)
 case pick c x y=>unfold Kz;rw [h c (by simp),h x (by simp),h y (by simp)]
 case load t x=>unfold FN;rw [h x (by simp)]
 case extract x i=>unfold Jg;rw [h x (by simp)]
 case nilCheck x=>unfold IQ;rw [h x (by simp)]
 case fieldAddr t x f=>unfold IK;rw [h x (by simp)]
 case binOp op t x y t'=>unfold Fw;rw [h x (by simp),h y (by simp)]
 case unOp op t x=>unfold Ky;rw [h x (by simp)]
 case convert s d x=>unfold EL;rw [h x (by simp)]
 case indexAddr t x i=>unfold IJ Jw;rw [h x (by simp),uQ (h i (by simp)),h i (by simp)]
 case index t x i=>unfold JZ;rw [h x (by simp),uQ (h i (by simp))]
 case field t x f=>unfold J2;rw [h x (by simp)]
 case sliceToArrayPointer t x=>unfold JH;rw [h x (by simp)]
 case makeInterface t x=>unfold II;rw [h x (by simp)]
 case typeAssert x t t' ok=>unfold Ih;rw [h x (by simp)]
 case lookup t x i ok=>unfold E8;rw [h x (by simp),h i (by simp)]
 case build t parts=>unfold Qo Kh;rw [NT fun p hp=>h p.2 (by simp;exact ⟨p.1,by simpa using hp⟩)]
 case makeFunc fn first cap=>
  unfold IU;rw [IE (l:=first.toList) fun x hx=>h x (by simp;exact .inl (by simpa using hx)),IE (l:=cap.toList) fun x hx=>h x (by simp;exact .inr (by simpa using hx))]
 case call c=>exact zm7 h
 case slice t x lo hi mx=>
  unfold JY;rw [h x (by simp)];have h1: ∀y,lo=some y→aR env y=aR env' y:=fun y e=>h y (by subst e;simp);have h2: ∀y,hi=some y→aR env y=aR env' y:=fun y e=>h y (by subst e;simp);have h3: ∀y,mx=some y→aR env y=aR env' y:=fun y e=>h y (by subst e;simp);split
  ·rw [zkC h1 h2 h3]
  ·rfl
theorem zmd {op:Op} {nx:Nat} (h: ∀x∈op.operands,aR env x=aR env' x):mW P op env nx=mW P op env' nx:=by
 cases op<;>simp only [mW]<;>first|rfl|skip
 all_goals simp only [Op.operands] at h
 case box t x=>unfold zS;rw [h x (by simp)]
 case buildSlice t len parts=>unfold Bo;rw [NT fun p hp=>h p.2 (by simp;exact ⟨p.1,by simpa using hp⟩)]
 case makeMap t r=>
  unfold BF;cases r with
  | none=>rfl
  | some r=>simp only;rw [uQ (h r (by simp))]
 case makeSlice t l c=>unfold Bv;rw [uQ (h l (by simp)),uQ (h c (by simp))]
theorem znc {rec:Task→Ob} {op:Op} {k:K} (h: ∀x∈op.operands,aR env x=aR env' x):heavy P rec op env H k=heavy P rec op env' H k:=by
 cases op<;>simp only [heavy]<;>first|rfl|skip
 all_goals simp only [Op.operands] at h
 case insert t m x v=>unfold BV;rw [h m (by simp),h x (by simp),h v (by simp)]
 case store t x v=>unfold J9;rw [h x (by simp),h v (by simp)]
 case mapUpdate t m x v=>unfold BV;rw [h m (by simp),h x (by simp),h v (by simp)]
 case mapEntry t m x=>unfold IX;rw [h m (by simp),h x (by simp)]
 case entryStore t m s v=>unfold Ic;rw [h m (by simp),h s (by simp),h v (by simp)]
 case call c=>
  have ha:jY env c.args.toList=jY env' c.args.toList:=IE fun x hx=>h x (by
   have:x∈c.args:=by simpa using hx
   unfold Call.operands;split<;>simp [this])
  unfold QW;cases hc:c.callee with
  | value f=>simp only;unfold JU;rw [h f (by simp [Call.operands,hc]),ha]
  | invoke r name=>simp only;unfold JV;rw [h r (by simp [Call.operands,hc]),ha]
  | builtin b=>simp only;unfold Jj;cases b<;>first|rfl|(simp only [JN,Kt,JM,ha])
structure Ext (H H':Heap):Prop where
 m: ∀n o,H.m.get n=some o→H'.m.get n=some o
 gw:H'.gw=H.gw
theorem Ext.refl (H:Heap):Ext H H:=⟨fun _ _ h=>h,rfl⟩
theorem Ext.row {H':Heap} (h:Ext H H') {n:Nat} {v:Vec} (hr:H.row n=some v):H'.row n=some v:=by
 unfold Heap.row at hr ⊢;split at hr
 case h_2=>cases hr
 rename_i hm;rw [h.m _ _ hm,h.gw];exact hr
theorem Ext.gP {H':Heap} (h:Ext H H') {n:Nat} {v:List ME×Nat} (hr:H.gP n=some v):H'.gP n=some v:=by
 unfold Heap.gP at hr ⊢;split at hr
 case h_2=>cases hr
 rename_i hm;rw [h.m _ _ hm];exact hr
theorem Ext.nW {H':Heap} (h:Ext H H') {sz n:Nat} {x:AV} {l:List AV} (hr:Dw.nW H sz n x=some l):Dw.nW H' sz n x=some l:=by
 cases x<;>simp only [Dw.nW] at hr ⊢ <;>try exact hr
 split at hr
 ·cases hr
 ·split at hr
  ·cases hr
  ·rename_i v hv;rw [h.row hv];exact hr
theorem Ext.rY {H':Heap} (h:Ext H H') {m:AV} {l:List ME} (hr:Dw.rY H m=some l):Dw.rY H' m=some l:=by
 cases m<;>simp only [Dw.rY] at hr ⊢ <;>try exact hr
 split at hr
 ·rename_i es c hm;rw [h.gP hm];exact hr
 ·cases hr
theorem NH {eq eq':TypeId→AV→AV→Option SB} (h: ∀t a b c,eq t a b=some c→eq' t a b=some c): ∀(l:List Field) (xs ys:List AV) (r:SB),eqFields P eq l xs ys=some r→eqFields P eq' l xs ys=some r
  | [], _,_,_,hr=>hr
  | fd::l,xs,ys,r,hr=>by
    unfold eqFields at hr ⊢;by_cases hn : fd.name = "_"
    · rw [yak hn] at hr ⊢;exact NH h l xs ys r hr
    · rw [yah hn] at hr ⊢;cases ha:qz P fd.type xs fd.offset with
      | none=>rw [ha] at hr;exact hr
      | some a=>
        cases hb:qz P fd.type ys fd.offset with
        | none=>rw [ha,hb] at hr;exact hr
        | some b=>
          rw [ha,hb] at hr;simp only at hr ⊢;cases hc:eq fd.type a b with
          | none=>rw [hc] at hr;cases hr
          | some c=>
            rw [hc] at hr;rw [h _ _ _ _ hc];cases hd:eqFields P eq l xs ys with
            | none=>rw [hd] at hr;cases hr
            | some d=>rw [hd] at hr;rw [NH h l xs ys d hd];exact hr
theorem UW {eq eq':AV→AV→Option SB} (h: ∀a b c,eq a b=some c→eq' a b=some c) {e:TypeId} {s:Nat}: ∀(n i:Nat) (xs ys:List AV) (r:SB),vg P eq e s n i xs ys=some r→vg P eq' e s n i xs ys=some r
 | 0,_,_,_,_,hr=>hr
 | n+1,i,xs,ys,r,hr=>by
  unfold vg at hr ⊢;cases ha:qz P e xs (i*s) with
  | none=>rw [ha] at hr;exact hr
  | some a=>
   cases hb:qz P e ys (i*s) with
   | none=>rw [ha,hb] at hr;exact hr
   | some b=>
    rw [ha,hb] at hr;simp only at hr ⊢;cases hc:eq a b with
    | none=>rw [hc] at hr;cases hr
    | some c=>
     rw [hc] at hr;rw [h _ _ _ hc];cases hd:vg P eq e s n (i+1) xs ys with
     | none=>rw [hd] at hr;cases hr
     | some d=>rw [hd] at hr;rw [UW h n (i+1) xs ys d hd];exact hr
theorem Ext.vK {H':Heap} (h:Ext H H') {n m:Nat} (hr:Dw.vK H n m=true):Dw.vK H' n m=true:=by
 unfold Dw.vK at hr ⊢;split at hr
 case h_2=>cases hr
 rename_i h1 h2;rw [h.m _ _ h1,h.m _ _ h2];simp only at hr ⊢;split at hr
 ·cases hr
 rename_i hg
 try rw [hg]
 split at hr
 case h_2=>cases hr
 rename_i h3 h4;simp only [h.row h3,h.row h4]
theorem Ext.iF {H':Heap} (h:Ext H H'): ∀(f:Nat) (t:TypeId) (x y:AV) (r:SB),Dw.iF P H f t x y=some r→Dw.iF P H' f t x y=some r
 | 0,_,_,_,_,hr=>hr
 | f+1,t,x,y,r,hr=>by
  unfold Dw.iF at hr ⊢;cases hd:P.underlying t with
  | none=>rw [hd] at hr;exact hr
  | some d=>
   rw [hd] at hr;cases d<;>simp only at hr ⊢ <;>try exact hr
   case pointer e=>
    cases x<;>cases y<;>simp only at hr ⊢ <;>try exact hr
    split at hr
    case h_2=>cases hr
    rename_i hs
    try rw [hs]
    try simp only
    split at hr
    ·rename_i hn;first|exact hr|(rw [hn];exact hr)
    ·rename_i hn
     try rw [hn]
     split at hr
     case h_2=>cases hr
     rename_i hap;simp only [h.vK hap];exact hr
   case struct fs=>
    cases x<;>cases y<;>simp only at hr ⊢ <;>try exact hr
    split at hr
    ·cases hr
    rename_i hst
    try rw [hst]
    exact NH (fun t a b c=>Ext.iF h f t a b c) _ _ _ _ hr
   case array len e=>
    cases x<;>cases y<;>simp only at hr ⊢ <;>try exact hr
    split at hr
    case h_2=>cases hr
    rename_i s hs
    try rw [hs]
    exact UW (fun a b c=>Ext.iF h f e a b c) _ _ _ _ _ hr
theorem Ext.jr {H':Heap} (h:Ext H H') {op:BinOp} {t:TypeId} {x y v:AV} (hr:Dw.jr P H op t x y=some v):Dw.jr P H' op t x y=some v:=by
 cases op<;>simp only [Dw.jr] at hr ⊢ <;>try exact hr
 all_goals
  split at hr
  case h_2=>cases hr
  rename_i b hb;rw [h.iF 8 t x y b hb];exact hr
theorem Ext.vM {H':Heap} (h:Ext H H') {c:Bool} {op:BinOp} {t:TypeId} {x y v:AV} (hr:Dw.vM P H c op t x y=some v):Dw.vM P H' c op t x y=some v:=by
  unfold Dw.vM at hr ⊢;cases x<;>first
    | exact hr
    | exact h.jr hr
    | (simp only at hr ⊢;split at hr
       · cases hr
       · exact h.jr hr)
    | (simp only at hr ⊢;split at hr
       · exact h.jr hr
       · cases hr)
theorem Ext.vQ {H':Heap} (h:Ext H H') {e:TypeId} {x v:AV} (hr:Dw.vQ P H e x=some v):Dw.vQ P H' e x=some v:=by
  unfold Dw.vQ at hr ⊢;cases hd:P.underlying e with
  | none=>rw [hd] at hr;cases hr
  | some d=>
    rw [hd] at hr;cases d<;>(try simp only at hr ⊢)<;>try (cases hr;done)
    rename_i kk;cases kk<;>(try simp only at hr ⊢)<;>try (cases hr;done)
    cases x<;>(try simp only at hr ⊢)<;>first
      | exact hr
      | (split at hr
         · cases hr
         rename_i n hn
         try rw [hn]
         split at hr
         · cases hr
         rename_i l hl;simp only [h.nW hl];exact hr)
theorem Ext.xW {H':Heap} (h:Ext H H') {s d:TypeId} {x v:AV} (hr:Dw.xW P H s d x=some v):Dw.xW P H' s d x=some v:=by
 unfold Dw.xW at hr ⊢;cases hs:P.underlying s with
 | none=>rw [hs] at hr;cases hr
 | some ds=>
  rw [hs] at hr;cases hd:P.underlying d with
  | none=>rw [hd] at hr;cases hr
  | some dd=>
   rw [hd] at hr;cases dd<;>simp only at hr ⊢ <;>try exact hr
   cases ds<;>simp only at hr ⊢ <;>try exact hr
   exact h.vQ hr
theorem Ext.wO {H':Heap} (h:Ext H H') {kd:TypeDesc} {et:TypeId} {m kk v:AV} {ok:Bool} (hr:Dw.wO P H kd et m kk ok=some v):Dw.rY H' m=none∧Dw.wO P H' kd et m kk ok=some v:=by
 unfold Dw.wO at hr ⊢;split at hr
 case h_2=>cases hr
 rename_i n;split at hr
 case h_2=>cases hr
 rename_i kn log h1 h2;have h3:=h.m _ _ (qi h1);have h4:H'.uI n=some (kn,log):=by unfold Heap.uI;rw [h3]
 refine ⟨?_,?_⟩
 ·unfold Dw.rY Heap.gP;simp only [h3]
 ·simp only [h4,h2];exact hr
theorem Ext.wN {H':Heap} (h:Ext H H') {t:TypeId} {m kk v:AV} {ok:Bool} (hr:Dw.wN P H t m kk ok=some v):Dw.wN P H' t m kk ok=some v:=by
 unfold Dw.wN at hr ⊢;split at hr
 ·cases hr
 rename_i kd et hm
 try rw [hm]
 split at hr
 ·obtain ⟨e1,e2⟩:=h.wO hr;rw [e1];exact e2
 rename_i es he;simp only [h.rY he];exact hr
theorem Ext.wM {H':Heap} (h:Ext H H') {d:Option TypeDesc} {x v:AV} (hr:Dw.wM d H x=some v):Dw.wM d H' x=some v:=by
 unfold Dw.wM at hr ⊢;cases d with
 | none=>exact hr
 | some d=>
  cases d<;>simp only at hr ⊢ <;>try exact hr
  cases x<;>simp only at hr ⊢ <;>try exact hr
  split at hr
  ·rename_i es c hm;simp only [h.gP hm];exact hr
  ·cases hr
theorem zpM {op:Op} {H':Heap} {v:AV} (h:Ext H H') (hr:light P op env H=some v):light P op env H'=some v:=by
 cases op<;>simp only [light] at hr ⊢ <;>try exact hr
 case load t x=>
  unfold FN at hr ⊢;split at hr
  case h_2=>cases hr
  rename_i n off hx
  try rw [hx]
  split at hr
  case h_2=>cases hr
  rename_i vv hv;simp only [h.row hv];exact hr
 case binOp op t x y t'=>
  unfold Fw at hr ⊢;split at hr
  case h_2=>cases hr
  rename_i p q hp hq
  try rw [hp,hq]
  exact h.vM hr
 case convert s d x=>
  unfold EL at hr ⊢;split at hr
  case h_2=>cases hr
  rename_i p hp
  try rw [hp]
  exact h.xW hr
 case lookup t x i ok=>
  unfold E8 at hr ⊢;split at hr
  case h_2=>cases hr
  rename_i p q hp hq
  try rw [hp,hq]
  exact h.wN hr
 case call c=>
  unfold vE at hr ⊢;cases hc:c.callee<;>rw [hc] at hr<;>try exact hr
  rename_i b;cases b<;>try exact hr
  change yM P _ _ env H=some v at hr;change yM P _ _ env H'=some v;unfold yM at hr ⊢;split at hr
  case h_2=>cases hr
  rename_i h1 h2
  try rw [h1,h2]
  try simp only
  split at hr
  case h_2=>cases hr
  rename_i p hp
  try rw [hp]
  exact h.wM hr
theorem NJ {ms:List Nat}: ∀ {l:List Edge} {x:Nat},(nQ ms l).testBit x=true→ ∃e∈l,Region.binds .any e=true∧(x=e.on∨(ms.getD e.on 0).testBit x=true)
 | [], x,h=>by simp [nQ] at h
 | e::l,x,h=>by
  unfold nQ at h;split at h
  ·rename_i hb;rw [show Nat.lor (Nat.lor (2^e.on) (ms.getD e.on 0)) (nQ ms l)=((2^e.on)|||(ms.getD e.on 0))|||nQ ms l from rfl,yaO,yaO,Bool.or_eq_true,Bool.or_eq_true,ycj,yaL] at h;rcases h with (h|h)|h
   ·exact ⟨e,ya0 ..,hb,.inl h.symm⟩
   ·exact ⟨e,ya0 ..,hb,.inr h⟩
   ·obtain ⟨e',h1,h2,h3⟩:=NJ h;exact ⟨e',ya3 _ h1,h2,h3⟩
  ·obtain ⟨e',h1,h2,h3⟩:=NJ h;exact ⟨e',ya3 _ h1,h2,h3⟩
theorem Eu: ∀(l:List Oper) (ms:List Nat) (i:Nat),i<ms.length→(nN l ms)[i]? =ms[i]?
 | [], ms,i,_=>rfl
 | o::l,ms,i,h=>by
  unfold nN;rw [Eu l _ i (by simp;omega),yaP h]
theorem zdt: ∀(l:List Oper) (ms:List Nat) (i x:Nat) (o:Oper),l[i]? =some o→((nN l ms).getD (ms.length+i) 0).testBit x=true→
  ∃ e∈o.after.toList,Region.binds .any e=true∧(x=e.on∨(e.on<ms.length+i∧((nN l ms).getD e.on 0).testBit x=true))
 | [], ms,i,x,o,h,_=>by simp at h
 | o'::l,ms,0,x,o,h,hx=>by
  simp at h;subst h;unfold nN at hx ⊢;rw [yaw,Eu l _ _ (by simp),yaV (by simp)] at hx;simp at hx;obtain ⟨e,h1,h2,h3⟩:=NJ hx;refine ⟨e,h1,h2,h3.imp id fun h3=> ?_⟩;have hlt:e.on<ms.length:=by
   apply yby;intro hh;rw [yaw,yaT (by omega)] at h3;simp at h3
  refine ⟨by omega,?_⟩;rw [yaw,Eu l _ _ (by simp;omega),yaP hlt,←yaw];exact h3
 | o'::l,ms,i+1,x,o,h,hx=>by
  unfold nN at hx ⊢;have:=zdt l (ms++ [nQ ms o'.after.toList]) i x o (by simpa using h) (by simpa [ybn,yc5 1 i] using hx);simpa [ybn,yc5 1 i] using this
def FH (ops:Array Oper) (listed:Array Bool):Prop:=
 ∀ (i:Nat) (o:Oper),ops[i]? =some o→listed.getD i false=true→ ∀e∈o.after,Region.binds .any e=true→listed.getD e.on false=true
theorem U1 {ops:Array Oper} {listed:Array Bool} (hc:FH ops listed): ∀(i:Nat) (o:Oper),ops[i]? =some o→(∀e∈o.after,Region.binds .any e=true→listed.getD e.on false=true)→
  ∀ x,((kC ops.toList).getD i 0).testBit x=true→listed.getD x false=true:=by
 intro i
 induction i using Nat.strongRecOn with
 | _ i ih=>
  intro o ho hl x hx;obtain ⟨e,h1,h2,h3⟩:=zdt ops.toList [] i x o (by simpa using ho) (by simpa [kC] using hx);have he:=hl e (by simpa using h1) h2;rcases h3 with h3|⟨h3,h4⟩
  ·rw [h3];exact he
  ·have hlt:e.on<i:=by simpa using h3
   have hi:i<ops.size:=(yax.1 ho).1;have ho':ops[e.on]? =some ops[e.on]:=yaQ (by omega);exact ih e.on hlt _ ho' (fun e' g1 g2=>hc e.on _ ho' he e' g1 g2) x h4
theorem zpZ {ops:Array Oper} {listed:Array Bool} (hc:FH ops listed) {i:Nat} (hr:i∈Region.ready .any ops listed):FH ops (listed.setIfInBounds i true):=by
 obtain ⟨h1,o,h2,h3⟩:=mem_ready.1 hr;intro i' o' ho' hl' e he hb;by_cases hi:i=i'
 ·subst hi;rw [h2] at ho';cases ho';exact getD_set_true (h3 e he hb)
 ·rw [ydV false hi] at hl';exact getD_set_true (hc i' o' ho' hl' e he hb)
def tK (ops:Array Oper):Prop:= ∀(i:Nat) (o:Oper),ops[i]? =some o→ ∀e∈o.after,Region.binds .any e=true→e.on<i
theorem zp9 {ops:Array Oper} {listed:Array Bool} (he:tK ops) (hsz:listed.size=ops.size) (hr:Region.ready .any ops listed= []): ∀i,i<ops.size→listed.getD i false=true:=by
 intro i
 induction i using Nat.strongRecOn with
 | _ i ih=>
  intro hi;cases hl:listed.getD i false with
  | true=>rfl
  | false=>
   exfalso;have hl':listed.getD i true=false:=by
    rw [yav,yaQ (by omega)] at hl ⊢;exact hl
   have:i∈Region.ready .any ops listed:=mem_ready.2 ⟨hl',ops[i],yaQ hi,fun e h1 h2=>by
    have hlt:=he i _ (yaQ hi) e h1 h2;exact ih e.on hlt (by omega)⟩
   rw [hr] at this;cases this
theorem XT {hs:List Nat}: ∀ {l:List Oper} {ms:List Nat} {n:Nat} {p:PO},l.length=ms.length→(p∈posOf hs l ms n↔ ∃i,l[i]? =some p.o∧p.i=n+i∧ms[i]? =some p.m∧p.s=kZ p.m hs 0 0)
 | [], ms,n,p,_=>by simp [posOf]
 | o::l,[],n,p,h=>by simp at h
 | o::l,m::ms,n,p,h=>by
  unfold posOf;rw [yaj,XT (l:=l) (by simpa using h)];constructor
  ·rintro (rfl|⟨i,h1,h2,h3,h4⟩)
   ·exact ⟨0,rfl,rfl,rfl,rfl⟩
   ·exact ⟨i+1,by simpa using h1,by rw [h2];omega,by simpa using h3,h4⟩
  ·rintro ⟨i,h1,h2,h3,h4⟩;cases i with
   | zero=>
    left;obtain ⟨po,pi,pm,ps⟩:=p;simp at h1 h2 h3 h4;subst h1 h2 h3 h4;rfl
   | succ i=>exact .inr ⟨i,by simpa using h1,by rw [h2];omega,by simpa using h3,h4⟩
theorem Uu: ∀(l:List Oper) (ms:List Nat),(nN l ms).length=ms.length+l.length
 | [], ms=>rfl
 | o::l,ms=>by unfold nN;rw [Uu l];simp;omega
theorem Er (l:List Oper):(kC l).length=l.length:=by unfold kC;rw [Uu];simp
theorem OQ {m:Nat}: ∀(hs:List Nat) (t acc:Nat),acc≤t→acc≤kZ m hs t acc
 | [], t,acc,_=>yaa _
 | h::l,t,acc,ha=>by
  unfold kZ;split
  ·exact yas (ycT ha) (OQ l _ _ (yaa _))
  ·exact OQ l _ _ (ycT ha)
theorem Ot {m:Nat}: ∀(hs:List Nat) (t acc u h:Nat),acc≤t→hs[u]? =some h→m.testBit h=true→t+u+1≤kZ m hs t acc
 | [], t,acc,u,h,_,hh,_=>by simp at hh
 | x::l,t,acc,0,h,ha,hh,hm=>by
  simp at hh;subst hh;unfold kZ;rw [hm];exact OQ l _ _ (yaa _)
 | x::l,t,acc,u+1,h,ha,hh,hm=>by
  unfold kZ;split
  ·have:=Ot l (t+1) (t+1) u h (yaa _) (by simpa using hh) hm;show t+(u+1)+1≤kZ m l (t+1) (t+1);omega
  ·have:=Ot l (t+1) acc u h (by omega) (by simpa using hh) hm;show t+(u+1)+1≤kZ m l (t+1) acc;omega
theorem N7 {m:Nat}: ∀(hs:List Nat) (t acc:Nat),acc≤t→kZ m hs t acc=acc∨ ∃u h,hs[u]? =some h∧m.testBit h=true∧kZ m hs t acc=t+u+1
 | [], t,acc,_=> .inl rfl
 | x::l,t,acc,ha=>by
  unfold kZ;split
  ·rename_i hm;rcases N7 (m:=m) l (t+1) (t+1) (yaa _) with h|⟨u,h,h1,h2,h3⟩
   ·exact .inr ⟨0,x,rfl,hm,h⟩
   ·exact .inr ⟨u+1,h,by simpa using h1,h2,by show kZ m l (t+1) (t+1)=_;omega⟩
  ·rcases N7 (m:=m) l (t+1) acc (by omega) with h|⟨u,h,h1,h2,h3⟩
   ·exact .inl h
   ·exact .inr ⟨u+1,h,by simpa using h1,h2,by show kZ m l (t+1) acc=_;omega⟩
end
end Go.Dw
end
