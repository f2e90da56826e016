/-
  Proved: laws on the way to 'PserveTakesProof' (texts DwCall DwPlan DwPlan2 DwLit DwPlan3 DwEnd DwOpen DwEnt DwWay DwDen SoA SoB SoC SoD SoF SoG SoH); no condition.
-/
import Derived.Test.YtfoggkodmjnmcaaGreatM1
import Derived.Defers
import Derived.Tactics
import Derived.LoopN
import Derived.Orders
import Derived.RowKit3
import Derived.ChangeSame
import Derived.KernelRfl
import Derived.Maps.AppendAt
set_option linter.unusedSimpArgs false
set_option linter.unusedVariables false
set_option maxHeartbeats 4000000
noncomputable section
namespace Go.Dw
def Enters (P : Program) (f : FuncId) : Prop := ∃ fn c, P.funcs[f]? = some fn ∧ fn.body = some c ∧ fn.name ≠ "runtime.NumGoroutine"
def zwA (P:Program) (ρ:Val) (w0:Cx) (f:FuncId) (args:List AV) (H:Heap) (k:K):Prop:=
 ∀ (j:J) (w:World) (vals:List Value),Inv ρ w0 j H w→RL ρ j args vals→Calls P f vals.toArray w (fun e w'=> ∃u,e= .returned u∧Post ρ w0 j H k u w')
def exOf:Ex→Exit
 | .normal=> .normal
 | .exit id=> .exit id
 | .ret=> .ret
def CodeQ (ρ:Val) (w0:Cx) (j:J) (H:Heap) (N:Nat) (k:KC) (ex:Exit) (a:Act) (w:World):Prop:=
 ∃ x env' H' j',ex=exOf x∧ER ρ j' N env' a∧Inv ρ w0 j' H' w∧St j H j' H'∧Ob.den ρ (k x env' H')
def OpsE (ρ:Val) (w0:Cx) (j:J) (H:Heap) (N:Nat) (k:T AV→Heap→Ob) (a:Act) (w:World):Prop:=
 ∃ env' H' j',ER ρ j' N env' a∧Inv ρ w0 j' H' w∧St j H j' H'∧Ob.den ρ (k env' H')
structure Good (P:Program) (ρ:Val) (w0:Cx) (n:Nat) (rec:Task→Ob):Prop where
 app: ∀t s n xs H k,Ob.den ρ (rec (.app t s n xs H k))→zER P ρ w0 t s n xs H k
 call: ∀f args H k,Ob.den ρ (rec (.call f args H k))→Enters P f∧zwA P ρ w0 f args H k
 code: ∀c p N env H k,zaK P p=c→Ob.den ρ (rec (.code c p N env H k))→ ∀j a w,Inv ρ w0 j H w→ER ρ j N env a→c.wp P (CodeQ ρ w0 j H N k) a w
 loop: ∀c p N env H k,zaK P p= .loop c→Ob.den ρ (rec (.code (.loop c) (2::p) N env H k))→ ∀j a w,Inv ρ w0 j H w→ER ρ j N env a→Code.rounds P c (CodeQ ρ w0 j H N k) n a w
 ops: ∀all l N env H k,Ob.den ρ (rec (.ops all l N env H k))→ ∀j a w Q,Inv ρ w0 j H w→ER ρ j N env a→(∀a' w',OpsE ρ w0 j H N k a' w'→Q Exit.normal a' w')→wpList P all Q l a w
section
variable {P:Program} {ρ:Val} {w0:Cx} {j:J} {H:Heap} {w:World} {N:Nat} {env:T AV} {a:Act} {o:Oper} {k:K} {Q:Exit→Act→World→Prop} {rec:Task→Ob} {n:Nat}
theorem zbz (env:T AV) (t u:Nat) (v:AV):zaW (env.set t v) u=if u=t then v else zaW env u:=by
 unfold zaW
 rw [T.get_set]
 by_cases h:u=t
 ·rw [if_pos h,if_pos h]
 ·rw [if_neg h,if_neg h]
theorem ER.same (he:ER ρ j N env a) {t:Nat} {v:AV} (ht:t<N) (hv:R ρ j v (a.tmps.getD t undef)):ER ρ j N (env.set t v) a:=by
 refine ⟨he.size,he.le,fun u hu=> ?_,?_⟩
 ·rw [zbz]
  split
  ·rename_i e;rw [e];exact .inr hv
  ·exact he.get u hu
 ·rw [zbz,if_neg (by have:=he.le;omega)]
  exact he.dfr
theorem ER.put (he:ER ρ j N env a) {d:Nat} {v:AV} {u:Value} (hd:d<N) (hv:R ρ j v u):ER ρ j N (env.set d v) (a.put (some d) u):=by
 have hsz:=he.size
 refine ⟨by simp [Act.put,he.size],he.le,fun t ht=> ?_,?_⟩
 ·rw [zbz]
  split
  ·rename_i e
   subst e
   simp only [Act.put,Array.getD_eq_getD_getElem?,Array.getElem?_setIfInBounds_self]
   rw [if_pos (by omega)]
   exact .inr hv
  ·rename_i e
   simp only [Act.put,Array.getD_eq_getD_getElem?,Array.getElem?_setIfInBounds_ne (Ne.symm e)]
   have:=he.get t ht
   rwa [Array.getD_eq_getD_getElem?] at this
 ·rw [zbz,if_neg (by have:=he.le;omega)]
  exact he.dfr
theorem zlI (he:ER ρ j N env a) {dst:Option Tmp} {v:AV} {u:Value} {kk:T AV→Ob} (hv:R ρ j v u) (h:Ob.den ρ (putA dst N env v kk)):
  ∃ env',ER ρ j N env' (a.put dst u)∧Ob.den ρ (kk env'):=by
 unfold putA at h
 split at h
 ·exact ⟨env,he,h⟩
 ·rename_i d
  split at h
  ·rename_i hb
   rw [Nat.blt_eq] at hb
   exact ⟨_,he.put hb hv,h⟩
  ·exact h.elim
theorem ziZ (he:ER ρ j N env a) {t:Nat} {b:SB} (h:env.get t=some (.bool b)):t≠zaP∧a.tmps[t]? =some (.bool (b.den ρ)):=by
 have hne:t≠zaP:=fun e=>by
  subst e
  have:=he.dfr
  unfold zaW at this
  rw [h] at this
  cases hd:a.defers with
  | nil=>rw [hd] at this;cases this
  | cons d ds=>rw [hd] at this;obtain ⟨_,_,_,_,e,_⟩:=this;cases e
 refine ⟨hne,?_⟩
 have:=(he.get t hne).resolve_left (by unfold zaW;rw [h];simp)
 unfold zaW at this
 rw [h] at this
 simp only [R,Array.getD_eq_getD_getElem?] at this
 cases ht:a.tmps[t]? with
 | none=>rw [ht] at this;simp [undef] at this
 | some x=>rw [ht] at this;simp at this;rw [this]
def GOk (all:Array Oper) (env:T AV) (a:Act) (o:Oper):G→Prop
 | .yes=>Region.wanted o (yielded all a.tmps)=true
 | .no=>Region.wanted o (yielded all a.tmps)=false
 | .test t b _=>env.get t=some (.bool b)
 | .none=>True
theorem zkt (he:ER ρ j N env a) (all:Array Oper) (o:Oper):GOk all env a o (zcJ all env o):=by
 unfold zcJ
 split
 ·rename_i hg;show Region.wanted o _=true;unfold Region.wanted;rw [hg]
 rename_i i want hg
 have hw:Region.wanted o (yielded all a.tmps)=(yielded all a.tmps i==some want):=by unfold Region.wanted;rw [hg]
 split
 ·rename_i hi;show Region.wanted o _=false;rw [hw];simp [yielded,hi]
 rename_i oj hi
 split
 ·rename_i hd;show Region.wanted o _=false;rw [hw];simp [yielded,hi,hd]
 rename_i t hd
 have undef':(∀b,a.tmps[t]? ≠some (.bool b))→Region.wanted o (yielded all a.tmps)=false:=by
  intro hb
  rw [hw]
  unfold yielded
  rw [hi]
  simp only [Option.bind_some,hd]
  cases hx:a.tmps[t]? with
  | none=>rfl
  | some v=>cases v<;>first|rfl|exact absurd hx (hb _)
 have val: ∀b,env.get t=some (.bool b)→Region.wanted o (yielded all a.tmps)=(some (b.den ρ)==some want):=fun b hb=>by
  have:=(ziZ he hb).2
  rw [hw]
  unfold yielded
  rw [hi]
  simp only [Option.bind_some,hd,this]
 have nobn: ∀c w,zaW env t= .nun c w→ ∀b,a.tmps[t]? ≠some (.bool b):=fun c w h0 b hb=>by
  by_cases hne:t=zaP
  ·rw [hne,Array.getElem?_eq_none (by rw [he.size];exact he.le)] at hb;cases hb
  ·have:=(he.get t hne).resolve_left (by rw [h0];simp)
   rw [h0,Array.getD_eq_getD_getElem?,hb] at this
   have h1:=this.1
   cases h1
 have nob:zaW env t= .tup []→ ∀b,a.tmps[t]? ≠some (.bool b):=fun h0 b hb=>by
  by_cases hne:t=zaP
  ·rw [hne,Array.getElem?_eq_none (by rw [he.size];exact he.le)] at hb;cases hb
  ·have:=(he.get t hne).resolve_left (by rw [h0];simp)
   rw [h0,Array.getD_eq_getD_getElem?,hb] at this
   obtain ⟨m,e,_⟩:=this
   cases e
 split
 ·rename_i h0
  exact undef' (nob (by unfold zaW;rw [h0];rfl))
 ·rename_i h0
  have:=val _ h0
  cases want
  ·show Region.wanted o _=false;rw [this];rfl
  ·show Region.wanted o _=true;rw [this];rfl
 ·rename_i h0
  have:=val _ h0
  cases want
  ·show Region.wanted o _=true;rw [this];rfl
  ·show Region.wanted o _=false;rw [this];rfl
 ·show env.get t=some _;assumption
 ·rename_i h0
  exact undef' (nob (by unfold zaW;rw [h0]))
 ·rename_i c w h0
  exact undef' (nobn c w (by unfold zaW;rw [h0]))
 ·trivial
theorem zhC {f:FuncId} (h:Enters P f) (args:Array Value):(callFunc f args).run P w= .ok (.enter f args) w:=by
 obtain ⟨fn,c,h1,h2,h3⟩:=h
 simp [callFunc,h1,h2,h3]
theorem zB9 {g:FuncId} {args:List AV} {vals:List Value} (hi:Inv ρ w0 j H w) (hv:RL ρ j args vals) (hen:Enters P g) (hc:zwA P ρ w0 g args H k) (hx:(execOp a.eval o).run P w=(callFunc g vals.toArray).run P w):OpOk P ρ w0 j H w a o k Q:=by
 unfold OpOk Oper.wp
 rw [hx,zhC hen,Oper.upon_enter]
 refine Calls.mono (hc j w vals hi hv) fun e w' he=> ?_
 obtain ⟨u,rfl,hp⟩:=he
 exact ⟨u,rfl,hp⟩
theorem zEH (hg:Good P ρ w0 n rec) (hi:Inv ρ w0 j H w) (he:ER ρ j N env a) {c:Call} (ho:o.op= .call c) {f:Operand} (hc:c.callee= .value f) (h:Ob.den ρ (zwb rec f c.args.toList env H k)):OpOk P ρ w0 j H w a o k Q:=by
 unfold zwb at h
 split at h
 case h_2=>exact h.elim
 rename_i g first cap args hf hargs
 have hh:Ob.den ρ (rec (.call g (first++(args++cap)) H k)):=by
  split at h
  ·simpa using h
  ·exact h
 obtain ⟨l,m,hfv,hl,hm⟩:=zao he hf
 have ha:=zkP he hargs
 obtain ⟨hen,hcall⟩:=hg.call _ _ _ _ hh
 refine zB9 hi (hl.append (ha.append hm)) hen hcall ?_
 simp only [execOp,ho,resolve,hc,Sem.run_bind,hfv,Deferred.ofValue,Sem.run_pure,Result.andThen_ok,invoke]
 congr 2
 apply Array.ext'
 simp
theorem zwP {t:TypeId} {name:String} {g:FuncId} {n:Nat} {v:Value} (h:zs5 P t name=some g):(method (n+1) t v name).run P w= .ok (g,v) w:=by
 unfold zs5 at h
 split at h
 ·cases h
 rename_i inf hinf
 split at h
 ·cases h
 rename_i m hm
 have hpath: ∀l,m.path.toList=l→l= []→m.path= #[]:=fun l e e'=>by apply Array.ext';rw [e,e']
 split at h
 ·rename_i f hp hf hu
  cases h
  unfold method
  simp only [typeInfo,Sem.run_bind,run_program,Result.andThen_ok,hinf,Sem.run_pure,hm,hp,follow,hf,receiverAt,run_underlying hu,Place.get]
 ·cases h
 ·rename_i f d hne hp hf hu
  cases h
  unfold method
  simp only [typeInfo,Sem.run_bind,run_program,Result.andThen_ok,hinf,Sem.run_pure,hm,hp,follow,hf,receiverAt,run_underlying hu,Place.get]
 ·cases h
theorem zEI (hg:Good P ρ w0 n rec) (hi:Inv ρ w0 j H w) (he:ER ρ j N env a) {c:Call} (ho:o.op= .call c) {r:Operand} {name:String} (hc:c.callee= .invoke r name) (h:Ob.den ρ (zwc P rec r name c.args.toList env H k)):OpOk P ρ w0 j H w a o k Q:=by
 unfold zwc at h
 split at h
 case h_2=>exact h.elim
 rename_i t v args hr hargs
 split at h
 case h_2=>exact h.elim
 rename_i g hmeth
 obtain ⟨y,hrv,hy⟩:=zao he hr
 have ha:=zkP he hargs
 obtain ⟨hen,hcall⟩:=hg.call _ _ _ _ h
 refine zB9 hi (.cons hy ha) hen hcall ?_
 have hm: ∀n,(method (P.types.size+Made.depth) t y name).run P n= .ok (g,y) n:=fun n=>zwP (n:=P.types.size+99) hmeth
 simp only [execOp,ho,resolve,hc,Sem.run_bind,hrv,Sem.run_pure,Result.andThen_ok,invoke]
 have e0:(#[Value.iface t y]++c.args.map a.eval)[0]? =some (.iface t y):=by rw [Array.getElem?_append_left (by show 0<1;omega)];rfl
 have e1:(#[Value.iface t y]++c.args.map a.eval).extract 1 (#[Value.iface t y]++c.args.map a.eval).size=c.args.map a.eval:=by
  apply Array.ext';simp [List.take_of_length_le]
 rw [e0]
 simp only [callMethod,Sem.run_bind,run_program,Result.andThen_ok,hm,e1]
 congr 2
 apply Array.ext'
 simp
theorem zyc (hg:Good P ρ w0 n rec) (hi:Inv ρ w0 j H w) (he:ER ρ j N env a) {c:Call} (ho:o.op= .call c) {b:Builtin} (hc:c.callee= .builtin b) (h:Ob.den ρ (ziw P rec b c env H k)):OpOk P ρ w0 j H w a o k Q:=by
 cases b<;>simp only [ziw] at h<;>first
  | exact zCq hi he hg.app ho hc h
  | exact zIv hi he ho hc h
  | exact zBR hi he ho hc h
  | exact zEy hi he ho hc h
  | exact h.elim
theorem zvR (hg:Good P ρ w0 n rec) (hi:Inv ρ w0 j H w) (he:ER ρ j N env a) (h:Ob.den ρ (heavy P rec o.op env H k)):OpOk P ρ w0 j H w a o k Q:=by
 cases ho:o.op<;>rw [ho] at h<;>simp only [heavy] at h<;>try (exact h.elim)
 case insert=>exact zqQ hi he (.inr ho) h
 case store=>exact zCN hi he ho h
 case mapUpdate=>exact zqQ hi he (.inl ho) h
 case mapEntry=>exact zs9 hi he ho h
 case entryStore=>exact znV hi he ho h
 case range=>exact zDq hi he ho h
 case next=>exact zHX hi he ho h
 case call c=>
  unfold zIu at h
  cases hc:c.callee<;>rw [hc] at h
  case value f=>exact zEH hg hi he ho hc h
  case invoke r name=>exact zEI hg hi he ho hc h
  case builtin b=>exact zyc hg hi he ho hc h
def zIR (ρ:Val) (w0:Cx) (j:J) (H:Heap) (N:Nat) (dst:Option Tmp) (k:K3) (a':Act) (w':World):Prop:=
 ∃ env1 v a1 u H' j',a'=a1.put dst u∧ER ρ j' N env1 a1∧R ρ j' v u∧Inv ρ w0 j' H' w'∧St j H j' H'∧Ob.den ρ (k env1 v H')
theorem OpOk.post3 {k:K3} (he:ER ρ j N env a) (h:OpOk P ρ w0 j H w a o (k env) Q):o.wp P a w (zIR ρ w0 j H N o.dst k) Q:=by
 refine Oper.wp_mono (fun a' w' hp=> ?_) h
 obtain ⟨u,rfl,v,H',j',h1,h2,h3,h4⟩:=hp
 exact ⟨env,v,a,u,H',j',rfl,he.mono h3.sub,h1,h2,h3,h4⟩
theorem zEu (hi:Inv ρ w0 j H w) (he:ER ρ j N env a) {k:K3} (h:Ob.den ρ (ztx rec o env H k)):o.wp P a w (zIR ρ w0 j H N o.dst k) Q:=by
 unfold ztx at h
 split at h
 case h_2=>exact h.elim
 rename_i c ho
 split at h
 case h_2=>exact h.elim
 rename_i f hc
 split at h
 case h_2=>exact h.elim
 rename_i g first cap args hf hargs
 obtain ⟨l,m,hfv,hl,hm⟩:=zao he hf
 have ha:=zkP he hargs
 have hx:(execOp a.eval o).run P w= .ok (.defer { target:= .fn (.func g) m.toArray,args:=l.toArray++c.args.map a.eval }) w:=by
  simp only [execOp,ho,resolve,hc,Sem.run_bind,hfv,Deferred.ofValue,Sem.run_pure,Result.andThen_ok]
 unfold Oper.wp
 rw [hx,Oper.upon_defer]
 refine ⟨_,_,_,undef,H,j,rfl,⟨he.size,he.le,fun t ht=> ?_,?_⟩,zcQ,hi,St.refl j H,h⟩
 ·rw [zbz,if_neg ht]
  exact he.get t ht
 ·rw [zbz,if_pos rfl]
  refine ⟨g,_,zaW env zaP,m.toArray,rfl,rfl,?_,he.dfr⟩
  have:(l.toArray++c.args.map a.eval++m.toArray).toList=l++((c.args.map a.eval).toList++m):=by simp
  rw [this]
  exact hl.append (ha.append hm)
theorem zIl (hg:Good P ρ w0 n rec) (hi:Inv ρ w0 j H w) (he:ER ρ j N env a) {k:K3} (h:Ob.den ρ (doOp P rec o env H k)):o.wp P a w (zIR ρ w0 j H N o.dst k) Q:=by
 unfold doOp at h
 cases hc:zhs o.op<;>rw [hc] at h
 case light=>exact (zEg hi he (k:=k env) h).post3 he
 case alloc=>exact (zEL hi he (k:=k env) h).post3 he
 case heavy=>exact (zvR hg hi he (k:=k env) h).post3 he
 case defr=>exact zEu hi he h
theorem OpsE.later {j':J} {H':Heap} {k:T AV→Heap→Ob} {a':Act} {w':World} (hs:St j H j' H') (h:OpsE ρ w0 j' H' N k a' w'):OpsE ρ w0 j H N k a' w':=by
 obtain ⟨env',H2,j2,h1,h2,h3,h4⟩:=h
 exact ⟨env',H2,j2,h1,h2,hs.trans h3,h4⟩
theorem zJM (hg:Good P ρ w0 n rec) {all:Array Oper} {l:List Oper} {k:T AV→Heap→Ob} (h:Ob.den ρ (zr5 P rec all l N env H k)) (hi:Inv ρ w0 j H w) (he:ER ρ j N env a)
  (hQ: ∀a' w',OpsE ρ w0 j H N k a' w'→Q Exit.normal a' w'):wpList P all Q l a w:=by
 unfold zr5 at h
 split at h
 ·exact hQ a w ⟨env,H,j,he,hi,St.refl j H,h⟩
 ·rename_i o rest
  have hgu:=zkt he all o
  unfold wpList
  split at h
  ·rename_i hy
   rw [hy] at hgu
   have hgu:Region.wanted o (yielded all a.tmps)=true:=hgu
   rw [if_pos hgu]
   refine .inl (Oper.wp_mono (fun a' w' hp=> ?_) (zIl hg hi he h))
   obtain ⟨env1,v,a1,u,H',j',rfl,h1,h2,h3,h4,h5⟩:=hp
   obtain ⟨env2,h6,h7⟩:=zlI h1 h2 h5
   exact hg.ops _ _ _ _ _ _ h7 j' _ _ Q h3 h6 fun a' w' hh=>hQ _ _ (hh.later h4)
  ·rename_i hy
   rw [hy] at hgu
   have hgu:Region.wanted o (yielded all a.tmps)=false:=hgu
   rw [hgu,if_neg (by simp)]
   obtain ⟨env2,h6,h7⟩:=zlI he zcQ h
   exact hg.ops _ _ _ _ _ _ h7 j _ _ Q hi h6 hQ
  ·rename_i t b _ hy
   rw [hy] at hgu
   split at h
   case h_2=>exact h.elim
   rename_i hb
   rw [Nat.blt_eq] at hb
   have hgu:env.get t=some (.bool b):=hgu
   obtain ⟨hne,htm⟩:=ziZ he hgu
   have hval:a.tmps.getD t undef= .bool (b.den ρ):=by rw [Array.getD_eq_getD_getElem?,htm];rfl
   cases hbv:b.den ρ with
   | true=>exact hg.ops _ (o::rest) _ _ _ _ (h.1 hbv) j _ _ Q hi (he.same hb (by rw [hval,hbv];rfl)) hQ
   | false=>exact hg.ops _ (o::rest) _ _ _ _ (h.2 hbv) j _ _ Q hi (he.same hb (by rw [hval,hbv];rfl)) hQ
  ·exact h.elim
theorem CodeQ.later {j':J} {H':Heap} {k:KC} {ex:Exit} {a':Act} {w':World} (hs:St j H j' H') (h:CodeQ ρ w0 j' H' N k ex a' w'):CodeQ ρ w0 j H N k ex a' w':=by
 obtain ⟨x,env',H2,j2,h0,h1,h2,h3,h4⟩:=h
 exact ⟨x,env',H2,j2,h0,h1,h2,hs.trans h3,h4⟩
theorem zCK (hg:Good P ρ w0 n rec) {b:Code} {p:List Nat} (hb:zaK P p=b) {k:KC} {ex:Exit} {a':Act} {w':World} (h:CodeQ ρ w0 j H N (zCL rec b p N k) ex a' w'):Exit.then (b.wp P (CodeQ ρ w0 j H N k)) (CodeQ ρ w0 j H N k) ex a' w':=by
 obtain ⟨x,env',H2,j2,rfl,h1,h2,h3,h4⟩:=h
 cases x with
 | normal=>exact wp_mono (hg.code _ _ _ _ _ _ hb h4 j2 _ _ h2 h1) fun e a w hh=>hh.later h3
 | exit id=>exact ⟨.exit id,env',H2,j2,rfl,h1,h2,h3,h4⟩
 | ret=>exact ⟨.ret,env',H2,j2,rfl,h1,h2,h3,h4⟩
theorem zjb {c:Code} {Q Q':Exit→Act→World→Prop} (hq: ∀e a w,Q e a w→Q' e a w): ∀(n:Nat) (a:Act) (w:World),Code.rounds P c Q n a w→Code.rounds P c Q' n a w
 | 0,_,_,h=>h
 | n+1,_,_,h=>wp_mono h fun e a w hh=>by
   cases e with
   | normal=>exact zjb hq n a w hh
   | _=>exact hq _ _ _ hh
theorem zbV {p:List Nat} {i:Nat} {c:Code} (h:zaK P p=c) (hc:c≠ .skip):zaK P (i::p)=zCW i c:=by
 cases p with
 | nil=>exact absurd h.symm hc
 | cons q l=>rw [←h];rfl
theorem ztb {p:List Nat} {c:Code} (h:zaK P p= .loop c):zaK P (zfh p)= .loop c:=by
 unfold zfh
 split
 ·rename_i i q
  have h:zCW 2 (zaK P (i::q))= .loop c:=h
  cases hx:zaK P (i::q)<;>rw [hx] at h<;>simp only [zCW] at h<;>first|exact h|cases h
 ·exact h
def znr (ρ:Val) {α:Type}:List (SB×α)→Option α
 | [] => none
 | e::l=>match e.1 with
  | .lit true=>some e.2
  | b=>if b.den ρ=true then some e.2 else znr ρ l
theorem zku {k:KC}: ∀ {l:LAns} {x:Ex} {env':T AV} {H':Heap},Ob.den ρ (zBH k l)→znr ρ l=some (x,env',H')→Ob.den ρ (k x env' H')
  | [], _,_,_,h,_=>h.elim
  | (b,x0,e0,H0)::l,x,env',H',h,hp=>by
    unfold zBH at h
    unfold znr at hp
    split at h
    · cases hp;exact h
    · rename_i hb
      split at hp
      · rename_i h1;exact absurd h1 hb
      · simp only at hp
        split at hp
        · rename_i ht;cases hp;exact h.1 ht
        · rename_i ht;exact zku (h.2 (by simpa using ht)) hp
def zwB (P:Program) (ρ:Val) (w0:Cx) (aorc:AOrc):Prop:=
 ∀ t s n xs H q,aorc t s n xs H=some q→ ∀k,Ob.den ρ (k q.1 q.2)→zER P ρ w0 t s n xs H k
theorem zJS:zwB P ρ w0 noA:=fun _ _ _ _ _ _ h=>by cases h
def zr1 (P:Program) (ρ:Val) (w0:Cx) (lorc:LOrc):Prop:=
 (∀ p N env H,lorc (2::p) N env H=none)∧ ∀p N env H l c,zaK P p=c→lorc p N env H=some l→ ∀j a w,Inv ρ w0 j H w→ER ρ j N env a→
  c.wp P (fun ex a' w'=> ∃x env' H' j',znr ρ l=some (x,env',H')∧ex=exOf x∧ER ρ j' N env' a'∧Inv ρ w0 j' H' w'∧St j H j' H') a w
theorem zJR:zr1 P ρ w0 noL:=⟨fun _ _ _ _=>rfl,fun _ _ _ _ _ _ _ h=>by cases h⟩
theorem zBf (hg:Good P ρ w0 n rec) {c:Code} {p:List Nat} {k:KC} (hc:zaK P p= .loop c) (h:Ob.den ρ (rec (.code c (0::zfh p) N env H (zCL rec (.loop c) (2::zfh p) N k)))) (hi:Inv ρ w0 j H w) (he:ER ρ j N env a):Code.rounds P c (CodeQ ρ w0 j H N k) (n+1) a w:=by
 have hb:=ztb hc
 refine wp_mono (hg.code _ _ _ _ _ _ (by rw [zbV hb (by simp)];rfl) h j a w hi he) fun ex a' w' hh=> ?_
 obtain ⟨x,env',H2,j2,rfl,h1,h2,h3,h4⟩:=hh
 cases x with
 | normal=>exact zjb (fun e a w hh=>hh.later h3) n _ _ (hg.loop _ _ _ _ _ _ hb h4 j2 _ _ h2 h1)
 | exit id=>exact ⟨.exit id,env',H2,j2,rfl,h1,h2,h3,h4⟩
 | ret=>exact ⟨.ret,env',H2,j2,rfl,h1,h2,h3,h4⟩
def zwy (P:Program) (ρ:Val) (w0:Cx) (rec:Task→Ob):Prop:=
 ∀ (id:Nat) (ops:Array Oper) (N:Nat) (env:T AV) (H:Heap) (k:KC) (j:J) (a:Act) (w:World),Ob.den ρ (zsg P id ops true rec [] N env H k)→Inv ρ w0 j H w→ER ρ j N env a→(Code.region id ops true).wp P (CodeQ ρ w0 j H N k) a w
theorem zIx {lorc:LOrc} (hlo:zr1 P ρ w0 lorc) (hg:Good P ρ w0 n rec) (hp:zwy P ρ w0 rec) {c:Code} {p:List Nat} {k:KC} (hc:zaK P p=c) (h:Ob.den ρ (znc P lorc rec c p N env H k)) (hi:Inv ρ w0 j H w) (he:ER ρ j N env a):c.wp P (CodeQ ρ w0 j H N k) a w:=by
 cases c<;>simp only [znc] at h<;>try (exact h.elim)
 case skip=>exact wp_skip ⟨.normal,env,H,j,rfl,he,hi,St.refl j H,h⟩
 case region id ops draw=>
  cases draw with
  | false=>
   refine wp_region_list (hg.ops _ _ _ _ _ _ h j a w _ hi he fun a' w' hh=> ?_)
   obtain ⟨env',H',j',h1,h2,h3,h4⟩:=hh
   exact ⟨.normal,env',H',j',rfl,h1,h2,h3,h4⟩
  | true=>exact hp _ _ _ _ _ _ _ _ _ h hi he
 case seq x y=>
  unfold zJm at h
  split at h
  ·rename_i l hl
   refine wp_mono (hlo.2 _ _ _ _ _ _ hc hl j a w hi he) fun ex a' w' hh=> ?_
   obtain ⟨x,env',H',j',h1,h2,h3,h4,h5⟩:=hh
   exact ⟨x,env',H',j',h2,h3,h4,h5,zku h h1⟩
  unfold sSeq at h
  exact wp_seq (wp_mono (hg.code _ _ _ _ _ _ (by rw [zbV hc (by simp)];rfl) h j a w hi he) fun ex a' w' hh=>zCK hg (by rw [zbV hc (by simp)];rfl) hh)
 case cond c x y=>
  unfold zJo at h
  split at h
  case h_2=>exact h.elim
  rename_i s hs
  have hv:=zao he hs
  split at h
  ·exact wp_cond_true hv (hg.code _ _ _ _ _ _ (by rw [zbV hc (by simp)];rfl) h j a w hi he)
  ·exact wp_cond_false hv (hg.code _ _ _ _ _ _ (by rw [zbV hc (by simp)];rfl) h j a w hi he)
  ·split at h
   case h_2=>exact h.elim
   rename_i t
   split at h
   case h_2=>exact h.elim
   rename_i hb
   rw [Nat.blt_eq] at hb
   have hval:a.tmps.getD t undef= .bool (s.den ρ):=hv
   refine wp_cond_split hv (fun hbv=> ?_) (fun hbv=> ?_)
   ·exact hg.code _ _ _ _ _ _ (by rw [zbV hc (by simp)];rfl) (h.1 hbv) j a w hi (he.same hb (by rw [hval,hbv];rfl))
   ·exact hg.code _ _ _ _ _ _ (by rw [zbV hc (by simp)];rfl) (h.2 hbv) j a w hi (he.same hb (by rw [hval,hbv];rfl))
 case block id c=>
  refine wp_block (wp_mono (hg.code _ _ _ _ _ _ (by rw [zbV hc (by simp)];rfl) h j a w hi he) fun ex a' w' hh=> ?_)
  obtain ⟨x,env',H2,j2,rfl,h1,h2,h3,h4⟩:=hh
  cases x with
  | normal=>exact ⟨.normal,env',H2,j2,rfl,h1,h2,h3,h4⟩
  | exit id'=>
   unfold zF4 at h4
   show if id'=id then _ else _
   simp only at h4
   split at h4
   ·rename_i hb
    rw [if_pos (zav hb)]
    exact ⟨.normal,env',H2,j2,rfl,h1,h2,h3,h4⟩
   ·rename_i hb
    rw [if_neg (fun e=>by subst e;rw [Nat.beq_refl] at hb;cases hb)]
    exact ⟨.exit id',env',H2,j2,rfl,h1,h2,h3,h4⟩
  | ret=>exact ⟨.ret,env',H2,j2,rfl,h1,h2,h3,h4⟩
 case loop c=>
  unfold zDa at h
  split at h
  ·rename_i l hl
   refine wp_mono (hlo.2 _ _ _ _ _ _ hc hl j a w hi he) fun ex a' w' hh=> ?_
   obtain ⟨x,env',H',j',h1,h2,h3,h4,h5⟩:=hh
   exact ⟨x,env',H',j',h2,h3,h4,h5,zku h h1⟩
  ·exact wp_loop_rounds (n+1) (zBf hg hc h hi he)
 case exit id=>exact wp_exit ⟨.exit id,env,H,j,rfl,he,hi,St.refl j H,h⟩
 case label l=>exact wp_label ⟨.normal,env,H,j,rfl,he,hi,St.refl j H,h⟩
 case ret=>exact wp_ret ⟨.ret,env,H,j,rfl,he,hi,St.refl j H,h⟩
def zzt (tmps:Array Value):ResultVar→Sem Value
 | .tmp t=>pure (tmps.getD t undef)
 | .cell b t=>do loadVar t (←asAddr (tmps.getD b undef))
theorem zwS (fn:Func) (tmps:Array Value):results fn tmps=(do let vs←fn.results.mapM (zzt tmps);pure (if h:vs.size=1 then vs[0] else .tuple vs)):=by
 unfold results
 congr 2
theorem ze3 (hi:Inv ρ w0 j H w) (he:ER ρ j N env a): ∀ {l:List ResultVar} {vs:List AV},zd2 P H env l=some vs→
    ∃ us:List Value,(l.mapM (zzt a.tmps)).run P w= .ok us w∧RL ρ j vs us
  | [], vs,h=>by
    unfold zd2 at h
    cases h
    exact ⟨[],by simp,rfl⟩
  | .tmp t::l,vs,h=>by
    unfold zd2 at h
    split at h
    case h_2=>cases h
    rename_i v m hv hm
    cases h
    obtain ⟨us,h1,h2⟩:=ze3 hi he hm
    have h3:=zao he hv
    refine ⟨a.tmps.getD t undef::us,?_,.cons h3 h2⟩
    simp only [List.mapM_cons,zzt,Sem.run_bind,Sem.run_pure,Result.andThen_ok,h1]
  | .cell b t::l,vs,h=>by
    unfold zd2 at h
    split at h
    case h_2=>cases h
    rename_i v m hv hm
    cases h
    obtain ⟨us,h1,h2⟩:=ze3 hi he hm
    obtain ⟨u, h3, h4⟩ := zfT (o := { dst := none, op := .load t (.tmp b), type := t, pos := "", after := #[], guard := none }) hi he hv
    have h5:(do loadVar t (←asAddr (a.tmps.getD b undef)):Sem Value).run P w= .ok u w:=by
      have h3:(Instr.loadAt t (a.tmps.getD b undef)).run P w= .ok u w:=by
        simp only [execOp,Sem.run_bind] at h3
        change ((Instr.loadAt t (a.tmps.getD b undef)).run P w).andThen _=_ at h3
        cases hr:(Instr.loadAt t (a.tmps.getD b undef)).run P w with
        | ok u' w'=>rw [hr] at h3;simp only [Result.andThen_ok,Sem.run_pure] at h3;cases h3;rfl
        | halt x w'=>rw [hr] at h3;cases h3
      generalize a.tmps.getD b undef=q at h3 ⊢
      unfold Instr.loadAt at h3
      cases q<;>first|(simp [Instr.sureAddr,stuck,Sem.run_bind,Sem.run,Result.andThen] at h3;done)|skip
      rename_i p
      cases p with
      | none=>simp [Instr.sureAddr,stuck,Sem.run_bind,Sem.run,Result.andThen] at h3
      | some p=>simpa [Instr.sureAddr,asAddr,Sem.run_bind] using h3
    refine ⟨u::us,?_,.cons h4 h2⟩
    have h5:(zzt a.tmps (.cell b t)).run P w= .ok u w:=h5
    simp only [List.mapM_cons,Sem.run_bind,h5,Sem.run_pure,Result.andThen_ok,h1]
theorem zzs (hi:Inv ρ w0 j H w) (he:ER ρ j N env a) {fn:Func} {v:AV} (h:zso P fn H env=some v): ∃u,(results fn a.tmps).run P w= .ok u w∧R ρ j v u:=by
 unfold zso at h
 have key: ∀us:List Value,(fn.results.toList.mapM (zzt a.tmps)).run P w= .ok us w→
   (results fn a.tmps).run P w= .ok (if h:us.length=1 then us[0] else .tuple us.toArray) w:=fun us hu=>by
  rw [zwS,Array.mapM_eq_mapM_toList,map_eq_pure_bind]
  simp only [Sem.run_bind,hu,Result.andThen_ok,Sem.run_pure]
  simp
 split at h
 ·rename_i v' hv
  cases h
  obtain ⟨us,h1,h2⟩:=ze3 hi he hv
  obtain ⟨u,m,rfl,h3,h4⟩:=h2
  have e:m= []:=h4
  subst e
  exact ⟨u,by rw [key _ h1];rfl,h3⟩
 ·rename_i l hne hv
  cases h
  obtain ⟨us,h1,h2⟩:=ze3 hi he hv
  have hlen:=h2.length
  refine ⟨_,key _ h1,?_⟩
  rw [dif_neg (fun e=>by
   rw [hlen] at e
   match l,e with
   | [x],_=>exact hne x rfl)]
  exact ⟨us,rfl,h2⟩
 ·cases h
theorem zeO: ∀(l:List AV) (i:Nat) (env:T AV) (t:Nat),zaW (zrq l i env) t=if i≤t then (match l[t-i]? with|some v=>v|none=>zaW env t) else zaW env t
 | [], i,env,t=>by simp [zrq]
 | a::l,i,env,t=>by
  unfold zrq
  rw [zeO l (Nat.succ i) (env.set i a) t,zbz]
  by_cases h1:i+1≤t
  ·rw [if_pos (show Nat.succ i≤t from h1),if_pos (show i≤t by omega),if_neg (show¬t=i by omega)]
   obtain ⟨d,hd⟩: ∃d,t-i=d+1:=⟨t-i-1,by omega⟩
   rw [hd,List.getElem?_cons_succ,show t-Nat.succ i=d by omega]
  ·rw [if_neg (show¬Nat.succ i≤t from h1)]
   by_cases h2:t=i
   ·subst h2;simp
   ·rw [if_neg h2,if_neg (show¬i≤t by omega)]
theorem zkx (t:Nat):zaW .leaf t=zbR:=rfl
theorem zvV {args:List AV} {vals:List Value} {m:Nat} (hv:RL ρ j args vals) (h1:args.length≤m) (h2:m≤zaP):ER ρ j m (zrq args 0 .leaf) { tmps:=vals.toArray++Array.replicate (m-vals.toArray.size) undef,defers:= [] }:=by
 have hl:=hv.length
 refine ⟨by simp [hl];omega,h2,fun t ht=> ?_,?_⟩
 ·rw [zeO,if_pos (Nat.zero_le t),Nat.sub_zero,zkx]
  cases ha:args[t]? with
  | some v=>
   obtain ⟨u,h3,h4⟩:=hv.get t v ha
   have:t<vals.toArray.size:=by have:=(List.getElem?_eq_some_iff.1 h3).1;simpa using this
   rw [Array.getD_eq_getD_getElem?,Array.getElem?_append_left this,List.getElem?_toArray,h3]
   exact .inr h4
  | none=>
   have:vals.toArray.size≤t:=by have:=List.getElem?_eq_none_iff.1 ha;simp;omega
   rw [Array.getD_eq_getD_getElem?,Array.getElem?_append_right this,Array.getElem?_replicate]
   have e:(if t-vals.toArray.size<m-vals.toArray.size then some undef else none).getD undef=undef:=by split<;>rfl
   rw [e]
   exact .inr zcQ
 ·show DR ρ j (zaW (zrq args 0 .leaf) zaP) []
  rw [zeO,if_pos (Nat.zero_le _),Nat.sub_zero,zkx,List.getElem?_eq_none (by omega)]
  rfl
theorem zrO {f : FuncId} {fn : Func} {c : Code} (h : zm6 P f = some (fn, c)) : P.funcs[f]? = some fn ∧ fn.body = some c ∧ fn.name ≠ "runtime.NumGoroutine" := by
  unfold zm6 at h
  split at h
  · cases h
  rename_i fn' hf
  split at h
  · cases h
  rename_i c' hc
  split at h
  · cases h
  rename_i hn
  cases h
  exact ⟨hf,hc,hn⟩
theorem zwe {f:FuncId} {fn:Func} {c:Code} (h:zm6 P f=some (fn,c)):zaK P [f]=c:=by
 unfold zaK
 simp only [h]
theorem znI (hi:Inv ρ w0 j H w) (he:ER ρ j N env a) {fn:Func} {k:K} (h:Ob.den ρ (leave P fn env k H)): ∃u v,(results fn a.tmps).run P w= .ok u w∧R ρ j v u∧Ob.den ρ (k v H):=by
 unfold leave at h
 split at h
 case h_2=>exact h.elim
 rename_i v hv
 obtain ⟨u,h1,h2⟩:=zzs hi he hv
 exact ⟨u,v,h1,h2,h⟩
theorem DR.none {v:AV} {ds:List Deferred} (h:DR ρ j v ds) (hv:v=zbR):ds= []:=by
 cases ds with
 | nil=>rfl
 | cons d ds=>obtain ⟨_,_,_,_,e,_⟩:=h;rw [hv] at e;cases e
theorem zrz (hg:Good P ρ w0 n rec) {fn:Func} {tmps:Array Value} {R':Ending→World→Prop} {fin:Heap→Ob}: ∀(m:Nat) (d:AV) (ds:List Deferred) (j:J) (H:Heap) (w:World),
  Ob.den ρ (zdG P rec fin m d H)→DR ρ j d ds→Inv ρ w0 j H w→(∀j' H' w',Inv ρ w0 j' H' w'→St j H j' H'→Ob.den ρ (fin H')→ ∃v,(results fn tmps).run P w'= .ok v w'∧R' (.returned v) w')→Leaves P fn tmps R' ds .returning w
 | 0,d,ds,j,H,w,h,_,_,_=>h.elim
 | m+1,d,ds,j,H,w,h,hd,hi,hfin=>by
  unfold zdG at h
  cases ds with
  | nil=>
   have e:d= .tup []:=hd
   subst e
   exact hfin j H w hi (St.refl j H) h
  | cons d' ds=>
   obtain ⟨g,args,rest,cap,rfl,htar,hargs,hrest⟩:=hd
   simp only at h
   split at h
   ·exact h.elim
   rename_i fn' c hb
   obtain ⟨h1,h2,h3⟩:=zrO hb
   split at h
   case h_2=>exact h.elim
   rename_i hsz
   rw [Bool.and_eq_true] at hsz
   have hs1:=Nat.le_of_ble_eq_true hsz.1
   have hs2:=Nat.le_of_ble_eq_true hsz.2
   have hwp:=hg.code _ _ _ _ _ _ (zwe hb) h j { tmps:=(d'.args++cap).toList.toArray++Array.replicate (fn'.ntmps-(d'.args++cap).toList.toArray.size) undef,defers:= [] } w hi (zvV hargs hs1 hs2)
   refine ⟨by simp,.func g,cap,g,(d'.args++cap).toList.toArray,htar,?_,?_⟩
   ·rw [htar]
    simp only [invoke]
    exact zhC ⟨fn',c,h1,h2,h3⟩ _
   ·refine CallsD.mono (callsD_of_wp (u:= .returning) (R:=fun e w'=>match e with| .returned _=>Leaves P fn tmps R' ds .returning w'|_=>False) h1 h2 (wp_mono hwp fun ex a' w' hh=> ?_)) (fun e u' w' hh=> ?_)
    ·obtain ⟨x,env',H2,j2,rfl,g1,g2,g3,g4⟩:=hh
     have fine: ∀(_:Ob.den ρ (match env'.get zaP with|none=>leave P fn' env' (fun _ H'=>zdG P rec fin m rest H') H2|some _=> .bad 57 fn'.name)),
       a'.defers= []∧ ∃v,(results fn' a'.tmps).run P w'= .ok v w'∧Leaves P fn tmps R' ds .returning w':=by
      intro g4
      split at g4
      case h_2=>exact g4.elim
      rename_i hnone
      obtain ⟨u,v,q1,q2,q3⟩:=znI g2 g1 g4
      refine ⟨g1.dfr.none (by unfold zaW;rw [hnone]),u,q1,?_⟩
      exact zrz hg m rest ds j2 H2 w' q3 (hrest.mono g3.sub) g2 fun j' H' w'' e1 e2 e3=>hfin j' H' w'' e1 (g3.trans e2) e3
     cases x with
     | normal=>exact fine g4
     | exit id=>exact g4.elim
     | ret=>exact fine g4
    ·obtain ⟨rfl,hh⟩:=hh
     cases e with
     | returned v=>exact hh
     | panicked c=>exact hh.elim
     | outgrown=>exact hh.elim
def zfY (P:Program) (ρ:Val) (w0:Cx) (orc:FuncId→List AV→Heap→Option (List (AV×Heap))):Prop:=
 ∀ f args H l,orc f args H=some l→Enters P f∧ ∀k,Ob.den ρ (zkv k l)→zwA P ρ w0 f args H k
theorem zB8 (hg:Good P ρ w0 n rec) {orc:FuncId→List AV→Heap→Option (List (AV×Heap))} (hor:zfY P ρ w0 orc) {f:FuncId} {args:List AV} (h:Ob.den ρ (znd P orc rec f args H k)):Enters P f∧zwA P ρ w0 f args H k:=by
 unfold znd at h
 split at h
 ·rename_i l hl
  exact ⟨(hor _ _ _ _ hl).1,(hor _ _ _ _ hl).2 k h⟩
 split at h
 ·exact h.elim
 rename_i fn c hb
 obtain ⟨h1,h2,h3⟩:=zrO hb
 split at h
 case h_2=>exact h.elim
 rename_i hsz
 rw [Bool.and_eq_true] at hsz
 have hs1:=Nat.le_of_ble_eq_true hsz.1
 have hs2:=Nat.le_of_ble_eq_true hsz.2
 refine ⟨⟨fn,c,h1,h2,h3⟩,fun j w vals hi hv=> ?_⟩
 refine calls_of_wp_defers h1 h2 (wp_mono (hg.code _ _ _ _ _ _ (zwe hb) h j _ w hi (zvV hv hs1 hs2)) fun ex a' w' hh=> ?_)
 obtain ⟨x,env',H2,j2,rfl,g1,g2,g3,g4⟩:=hh
 have fine: ∀(_:Ob.den ρ (match env'.get zaP with|none=>leave P fn env' k H2|some d=>zdG P rec (leave P fn env' k) 8 d H2)),
   Leaves P fn a'.tmps (fun e w'=> ∃u,e= .returned u∧Post ρ w0 j H k u w') a'.defers .returning w':=by
  intro g4
  split at g4
  ·rename_i hnone
   obtain ⟨u,v,q1,q2,q3⟩:=znI g2 g1 g4
   rw [g1.dfr.none (by unfold zaW;rw [hnone])]
   exact ⟨u,q1,u,rfl,v,H2,j2,q2,g2,g3,q3⟩
  ·rename_i d hd
   refine zrz hg 8 d a'.defers j2 H2 w' g4 (by have:=g1.dfr;unfold zaW at this;rw [hd] at this;exact this) g2 fun j' H' w'' e1 e2 e3=> ?_
   obtain ⟨u,v,q1,q2,q3⟩:=znI e1 (g1.mono e2.sub) e3
   exact ⟨u,q1,u,rfl,v,H',j',q2,e1,g3.trans e2,q3⟩
 cases x with
 | normal=>exact fine g4
 | exit id=>exact g4.elim
 | ret=>exact fine g4
theorem zis {orc:FuncId→List AV→Heap→Option (List (AV×Heap))} {lorc:LOrc} {aorc:AOrc} (hor:zfY P ρ w0 orc) (hlo:zr1 P ρ w0 lorc) (hao:zwB P ρ w0 aorc) (hp: ∀n rec,Good P ρ w0 n rec→zwy P ρ w0 rec): ∀n,Good P ρ w0 n (evL P orc lorc aorc n)
 | 0=>⟨fun _ _ _ _ _ _ h=>h.elim,fun _ _ _ _ h=>h.elim,fun _ _ _ _ _ _ _ h=>h.elim,fun _ _ _ _ _ _ _ h=>h.elim,fun _ _ _ _ _ _ h=>h.elim⟩
 | n+1=>by
  have ih:=zis hor hlo hao hp n
  refine ⟨fun t s n xs H k h=> ?_,fun f args H k h=>zB8 ih hor h,fun c p N env H k hc h j a w hi he=>zIx hlo ih (hp n _ ih) hc h hi he,fun c p N env H k hc h j a w hi he=> ?_,fun all l N env H k h j a w Q hi he hQ=>zJM ih h hi he hQ⟩
  ·have h:Ob.den ρ (zr6 aorc t s n xs H k):=h
   unfold zr6 at h
   split at h
   ·rename_i q hq
    exact hao _ _ _ _ _ _ hq k h
   ·exact h.elim
  have h:Ob.den ρ (zDa lorc c (evL P orc lorc aorc n) (2::p) N env H k):=h
  unfold zDa at h
  rw [hlo.1] at h
  exact zBf ih (p:=2::p) (by rw [zbV hc (by simp)];rfl) h hi he
theorem znU {orc:FuncId→List AV→Heap→Option (List (AV×Heap))} (hor:zfY P ρ w0 orc) (hp: ∀n rec,Good P ρ w0 n rec→zwy P ρ w0 rec) (n:Nat):Good P ρ w0 n (ev P orc n):=zis hor zJR zJS hp n
end
end Go.Dw
namespace Go.Dw
section
variable {P:Program} {ρ:Val} {w0:Cx} {j:J} {H:Heap} {w:World} {N:Nat} {env env':T AV} {a:Act} {o:Oper}
theorem zfe: ∀ {l:List Operand},(∀x∈l,opd env x=opd env' x)→opds env l=opds env' l
 | [], _=>rfl
 | x::l,h=>by
  unfold opds
  rw [h x (List.mem_cons_self ..),zfe fun y hy=>h y (List.mem_cons_of_mem _ hy)]
theorem zbU {x:Operand} (h:opd env x=opd env' x):natA env x=natA env' x:=by unfold natA;rw [h]
theorem zhh {x:Option Operand} {d:Nat} (h: ∀y,x=some y→opd env y=opd env' y):natO env x d=natO env' x d:=by
 cases x with
 | none=>rfl
 | some y=>exact zbU (h y rfl)
theorem zd6: ∀ {l:List (Nat×Operand)},(∀p∈l,opd env p.2=opd env' p.2)→partsOf env l=partsOf env' l
  | [], _=>rfl
  | (i,x)::l,h=>by
    unfold partsOf
    rw [h (i,x) (List.mem_cons_self ..),zd6 fun y hy=>h y (List.mem_cons_of_mem _ hy)]
theorem zti {c:Call} (h: ∀x∈c.operands,opd env x=opd env' x):znK P c env H=znK P c env' H:=by
 have ha: ∀x∈c.args.toList,opd env x=opd env' x:=fun x hx=>h x (by
  have:x∈c.args:=by simpa using hx
  unfold Call.operands
  split<;>simp [this])
 unfold znK
 cases hc:c.callee<;>first|rfl|skip
 rename_i b
 cases b<;>first|rfl|skip
 all_goals simp only [lLen,lCap,lMin,lMax]
 all_goals (split<;>first|rfl|skip)
 all_goals (rename_i hx;first|rw [ha _ (by rw [hx];exact List.mem_cons_self ..),ha _ (by rw [hx];exact List.mem_cons_of_mem _ (List.mem_cons_self ..))]|rw [ha _ (by rw [hx];exact List.mem_cons_self ..)])
theorem zeQ {len cap:Nat} {lo hi mx:Option Operand} (h1: ∀y,lo=some y→opd env y=opd env' y) (h2: ∀y,hi=some y→opd env y=opd env' y) (h3: ∀y,mx=some y→opd env y=opd env' y):
  bounds env len cap lo hi mx=bounds env' len cap lo hi mx:=by
 have e1:natO env lo 0=natO env' lo 0:=zhh h1
 unfold bounds
 cases mx<;>cases hi<;>simp only [e1]
 all_goals first
  | rfl
  | rw [zbU (h2 _ rfl),zbU (h3 _ rfl)]
  | rw [zbU (h3 _ rfl)]
  | rw [zhh h2]
theorem zo1 {t:TypeId} {v:AV} {lo hi mx:Option Operand} (h1: ∀y,lo=some y→opd env y=opd env' y) (h2: ∀y,hi=some y→opd env y=opd env' y) (h3: ∀y,mx=some y→opd env y=opd env' y):
  zlt P env t v lo hi mx=zlt P env' t v lo hi mx:=by
 have hb: ∀len cap,bounds env len cap lo hi mx=bounds env' len cap lo hi mx:=fun _ _=>zeQ h1 h2 h3
 have hn: ∀len cap,bounds env len cap lo hi none=bounds env' len cap lo hi none:=fun _ _=>zeQ h1 h2 (fun _ e=>by cases e)
 have hs: ∀s b off len cap,zi1 env s b off len cap lo hi mx=zi1 env' s b off len cap lo hi mx:=by
  intro s b off len cap
  unfold zi1
  have hS: ∀c,zhu env c lo hi=zhu env' c lo hi:=fun c=>by
   unfold zhu
   rw [zhh h1]
   cases natO env' lo 0<;>cases hi<;>try rfl
   rename_i y
   simp only
   rw [h2 y rfl]
  cases cap<;>simp only [hb,hn,hS]
 unfold zlt
 cases v<;>simp only [hb,hn,hs]
theorem zkk {op:Op} (h: ∀x∈op.operands,opd env x=opd env' x):light P op env H=light P op env' H:=by
 cases op<;>simp only [light]<;>first|rfl|skip
 all_goals simp only [Op.operands] at h
 case move x=>exact h x (by simp)
 case assign x=>exact h x (by simp)
 case pick c x y=>unfold zEi;rw [h c (by simp),h x (by simp),h y (by simp)]
 case load t x=>unfold zBl;rw [h x (by simp)]
 case extract x i=>unfold ziq;rw [h x (by simp)]
 case nilCheck x=>unfold zgF;rw [h x (by simp)]
 case fieldAddr t x f=>unfold zfm;rw [h x (by simp)]
 case binOp op t x y t'=>unfold zq6;rw [h x (by simp),h y (by simp)]
 case unOp op t x=>unfold zEh;rw [h x (by simp)]
 case convert s d x=>unfold zgH;rw [h x (by simp)]
 case indexAddr t x i=>unfold zfl zip;rw [h x (by simp),zbU (h i (by simp)),h i (by simp)]
 case index t x i=>unfold zvG;rw [h x (by simp),zbU (h i (by simp))]
 case field t x f=>unfold zvH;rw [h x (by simp)]
 case sliceToArrayPointer t x=>unfold znM;rw [h x (by simp)]
 case makeInterface t x=>unfold zfk;rw [h x (by simp)]
 case typeAssert x t t' ok=>unfold zeb;rw [h x (by simp)]
 case lookup t x i ok=>unfold zkn;rw [h x (by simp),h i (by simp)]
 case entry x=>unfold zq4;rw [h x (by simp)]
 case build t parts=>unfold zBm zgV;rw [zd6 fun p hp=>h p.2 (by simp;exact ⟨p.1,by simpa using hp⟩)]
 case makeFunc fn first cap=>
  unfold zgG
  rw [zfe (l:=first.toList) fun x hx=>h x (by simp;exact .inl (by simpa using hx)),zfe (l:=cap.toList) fun x hx=>h x (by simp;exact .inr (by simpa using hx))]
 case call c=>exact zti h
 case slice t x lo hi mx=>
  unfold zq0
  rw [h x (by simp)]
  have h1: ∀y,lo=some y→opd env y=opd env' y:=fun y e=>h y (by subst e;simp)
  have h2: ∀y,hi=some y→opd env y=opd env' y:=fun y e=>h y (by subst e;simp)
  have h3: ∀y,mx=some y→opd env y=opd env' y:=fun y e=>h y (by subst e;simp)
  split
  ·rw [zo1 h1 h2 h3]
   have hu: ∀v,zi0 P H env t v lo hi mx=zi0 P H env' t v lo hi mx:=fun v=>by
    unfold zi0
    cases v<;>try rfl
    rename_i b off len cap
    cases cap<;>try rfl
    cases mx<;>cases hi<;>try rfl
    rename_i k y
    have hb: ∀len cap,bounds env len cap lo (some y) none=bounds env' len cap lo (some y) none:=fun _ _=>zeQ h1 h2 (fun _ e=>by cases e)
    simp only [zbU (h2 y rfl),hb]
   rw [hu]
  ·rfl
theorem zrW {op:Op} {nx:Nat} (h: ∀x∈op.operands,opd env x=opd env' x):zdj P op env nx=zdj P op env' nx:=by
 cases op<;>simp only [zdj]<;>first|rfl|skip
 all_goals simp only [Op.operands] at h
 case box t x=>unfold aBox;rw [h x (by simp)]
 case buildSlice t len parts=>unfold zcB;rw [zd6 fun p hp=>h p.2 (by simp;exact ⟨p.1,by simpa using hp⟩)]
 case makeMap t r=>
  unfold zft
  cases r with
  | none=>rfl
  | some r=>simp only;rw [zbU (h r (by simp))]
 case makeSlice t l c=>unfold zcZ;rw [zbU (h l (by simp)),zbU (h c (by simp))]
theorem ztq {rec:Task→Ob} {op:Op} {k:K} (h: ∀x∈op.operands,opd env x=opd env' x):heavy P rec op env H k=heavy P rec op env' H k:=by
 cases op<;>simp only [heavy]<;>first|rfl|skip
 all_goals simp only [Op.operands] at h
 case insert t m x v=>unfold zhr;rw [h m (by simp),h x (by simp),h v (by simp)]
 case store t x v=>unfold zv8;rw [h x (by simp),h v (by simp)]
 case mapUpdate t m x v=>unfold zhr;rw [h m (by simp),h x (by simp),h v (by simp)]
 case mapEntry t m x=>unfold zgS;rw [h m (by simp),h x (by simp)]
 case entryStore t m s v=>unfold zem;rw [h m (by simp),h s (by simp),h v (by simp)]
 case range t x=>unfold zv9;rw [h x (by simp)]
 case next x str=>unfold zEv;rw [h x (by simp)]
 case call c=>
  have ha:opds env c.args.toList=opds env' c.args.toList:=zfe fun x hx=>h x (by
   have:x∈c.args:=by simpa using hx
   unfold Call.operands
   split<;>simp [this])
  unfold zIu
  cases hc:c.callee with
  | value f=>simp only;unfold zwb;rw [h f (by simp [Call.operands,hc]),ha]
  | invoke r name=>simp only;unfold zwc;rw [h r (by simp [Call.operands,hc]),ha]
  | builtin b=>simp only;unfold ziw;cases b<;>first|rfl|(simp only [zn0,zEw,znZ,zwa,ha])
structure Ext (H H':Heap):Prop where
 m: ∀n o,H.m.get n=some o→H'.m.get n=some o
 gw:H'.gw=H.gw
theorem Ext.refl (H:Heap):Ext H H:=⟨fun _ _ h=>h,rfl⟩
theorem Ext.row {H':Heap} (h:Ext H H') {n:Nat} {v:Vec} (hr:H.row n=some v):H'.row n=some v:=by
 unfold Heap.row at hr ⊢
 split at hr
 case h_2=>cases hr
 rename_i hm
 rw [h.m _ _ hm,h.gw]
 exact hr
theorem Ext.mapAt {H':Heap} (h:Ext H H') {n:Nat} {v:List ME×Nat} (hr:H.mapAt n=some v):H'.mapAt n=some v:=by
 unfold Heap.mapAt at hr ⊢
 split at hr
 case h_2=>cases hr
 rename_i hm
 rw [h.m _ _ hm]
 exact hr
theorem Ext.mapuAt {H':Heap} (h:Ext H H') {n:Nat} {v:List ME} (hr:H.mapuAt n=some v):H'.mapuAt n=some v:=by
 unfold Heap.mapuAt at hr ⊢
 split at hr
 case h_2=>cases hr
 rename_i hm
 rw [h.m _ _ hm]
 exact hr
theorem Ext.cellsA {H':Heap} (h:Ext H H') {sz n:Nat} {x:AV} {l:List AV} (hr:Dw.cellsA H sz n x=some l):Dw.cellsA H' sz n x=some l:=by
 cases x<;>simp only [Dw.cellsA] at hr ⊢ <;>try exact hr
 split at hr
 ·cases hr
 ·split at hr
  ·cases hr
  ·rename_i v hv
   rw [h.row hv]
   exact hr
theorem Ext.entriesA {H':Heap} (h:Ext H H') {m:AV} {l:List ME} (hr:Dw.entriesA H m=some l):Dw.entriesA H' m=some l:=by
 cases m<;>simp only [Dw.entriesA] at hr ⊢ <;>try exact hr
 split at hr
 ·rename_i es c hm
  rw [h.mapAt hm]
  exact hr
 ·cases hr
theorem zeh {eq eq':TypeId→AV→AV→Option SB} (h: ∀t a b c,eq t a b=some c→eq' t a b=some c): ∀(l:List Field) (xs ys:List AV) (r:SB),eqFields P eq l xs ys=some r→eqFields P eq' l xs ys=some r
  | [], _,_,_,hr=>hr
  | fd::l,xs,ys,r,hr=>by
    unfold eqFields at hr ⊢
    by_cases hn : fd.name = "_"
    · rw [if_pos hn] at hr ⊢
      exact zeh h l xs ys r hr
    · rw [if_neg hn] at hr ⊢
      cases ha:zg8 P fd.type xs fd.offset with
      | none=>rw [ha] at hr;exact hr
      | some a=>
        cases hb:zg8 P fd.type ys fd.offset with
        | none=>rw [ha,hb] at hr;exact hr
        | some b=>
          rw [ha,hb] at hr
          simp only at hr ⊢
          cases hc:eq fd.type a b with
          | none=>rw [hc] at hr;cases hr
          | some c=>
            rw [hc] at hr
            rw [h _ _ _ _ hc]
            cases hd:eqFields P eq l xs ys with
            | none=>rw [hd] at hr;cases hr
            | some d=>rw [hd] at hr;rw [zeh h l xs ys d hd];exact hr
theorem zh0 {eq eq':AV→AV→Option SB} (h: ∀a b c,eq a b=some c→eq' a b=some c) {e:TypeId} {s:Nat}: ∀(n i:Nat) (xs ys:List AV) (r:SB),zei P eq e s n i xs ys=some r→zei P eq' e s n i xs ys=some r
 | 0,_,_,_,_,hr=>hr
 | n+1,i,xs,ys,r,hr=>by
  unfold zei at hr ⊢
  cases ha:zg8 P e xs (i*s) with
  | none=>rw [ha] at hr;exact hr
  | some a=>
   cases hb:zg8 P e ys (i*s) with
   | none=>rw [ha,hb] at hr;exact hr
   | some b=>
    rw [ha,hb] at hr
    simp only at hr ⊢
    cases hc:eq a b with
    | none=>rw [hc] at hr;cases hr
    | some c=>
     rw [hc] at hr
     rw [h _ _ _ hc]
     cases hd:zei P eq e s n (i+1) xs ys with
     | none=>rw [hd] at hr;cases hr
     | some d=>rw [hd] at hr;rw [zh0 h n (i+1) xs ys d hd];exact hr
theorem Ext.apartA {H':Heap} (h:Ext H H') {n m:Nat} (hr:Dw.apartA H n m=true):Dw.apartA H' n m=true:=by
 unfold Dw.apartA at hr ⊢
 split at hr
 case h_2=>cases hr
 rename_i h1 h2
 rw [h.m _ _ h1,h.m _ _ h2]
 simp only at hr ⊢
 split at hr
 ·cases hr
 rename_i hg
 try rw [hg]
 split at hr
 case h_2=>cases hr
 rename_i h3 h4
 simp only [h.row h3,h.row h4]
theorem Ext.eqA {H':Heap} (h:Ext H H'): ∀(f:Nat) (t:TypeId) (x y:AV) (r:SB),Dw.eqA P H f t x y=some r→Dw.eqA P H' f t x y=some r
 | 0,_,_,_,_,hr=>hr
 | f+1,t,x,y,r,hr=>by
  unfold Dw.eqA at hr ⊢
  cases hd:P.underlying t with
  | none=>rw [hd] at hr;exact hr
  | some d=>
   rw [hd] at hr
   cases d<;>simp only at hr ⊢ <;>try exact hr
   case pointer e=>
    cases x<;>cases y<;>simp only at hr ⊢ <;>try exact hr
    split at hr
    case h_2=>cases hr
    rename_i hs
    try rw [hs]
    try simp only
    split at hr
    ·rename_i hn;first|exact hr|(rw [hn];exact hr)
    ·rename_i hn
     try rw [hn]
     split at hr
     case h_2=>cases hr
     rename_i hap
     simp only [h.apartA hap]
     exact hr
   case struct fs=>
    cases x<;>cases y<;>simp only at hr ⊢ <;>try exact hr
    split at hr
    ·cases hr
    rename_i hst
    try rw [hst]
    exact zeh (fun t a b c=>Ext.eqA h f t a b c) _ _ _ _ hr
   case array len e=>
    cases x<;>cases y<;>simp only at hr ⊢ <;>try exact hr
    split at hr
    case h_2=>cases hr
    rename_i s hs
    try rw [hs]
    exact zh0 (fun a b c=>Ext.eqA h f e a b c) _ _ _ _ _ hr
theorem Ext.binEq {H':Heap} (h:Ext H H') {op:BinOp} {t:TypeId} {x y v:AV} (hr:Dw.binEq P H op t x y=some v):Dw.binEq P H' op t x y=some v:=by
 cases op<;>simp only [Dw.binEq] at hr ⊢ <;>try exact hr
 all_goals
  split at hr
  case h_2=>cases hr
  rename_i b hb
  rw [h.eqA 8 t x y b hb]
  exact hr
theorem Ext.binA {H':Heap} (h:Ext H H') {c:Bool} {op:BinOp} {t:TypeId} {x y v:AV} (hr:Dw.binA P H c op t x y=some v):Dw.binA P H' c op t x y=some v:=by
  unfold Dw.binA at hr ⊢
  cases x<;>first
    | exact hr
    | exact h.binEq hr
    | (simp only at hr ⊢
       split at hr
       · cases hr
       · exact h.binEq hr)
    | (simp only at hr ⊢
       split at hr
       · exact h.binEq hr
       · cases hr)
theorem Ext.convStr {H':Heap} (h:Ext H H') {e:TypeId} {x v:AV} (hr:Dw.convStr P H e x=some v):Dw.convStr P H' e x=some v:=by
  unfold Dw.convStr at hr ⊢
  cases hd:P.underlying e with
  | none=>rw [hd] at hr;cases hr
  | some d=>
    rw [hd] at hr
    cases d<;>(try simp only at hr ⊢)<;>try (cases hr;done)
    rename_i kk
    cases kk<;>(try simp only at hr ⊢)<;>try (cases hr;done)
    cases x<;>(try simp only at hr ⊢)<;>first
      | exact hr
      | (split at hr
         · cases hr
         rename_i n hn
         try rw [hn]
         split at hr
         · cases hr
         rename_i l hl
         simp only [h.cellsA hl]
         exact hr)
theorem Ext.convA {H':Heap} (h:Ext H H') {s d:TypeId} {x v:AV} (hr:Dw.convA P H s d x=some v):Dw.convA P H' s d x=some v:=by
 unfold Dw.convA at hr ⊢
 cases hs:P.underlying s with
 | none=>rw [hs] at hr;cases hr
 | some ds=>
  rw [hs] at hr
  cases hd:P.underlying d with
  | none=>rw [hd] at hr;cases hr
  | some dd=>
   rw [hd] at hr
   cases dd<;>simp only at hr ⊢ <;>try exact hr
   cases ds<;>simp only at hr ⊢ <;>try exact hr
   exact h.convStr hr
theorem Ext.hits {H':Heap} (h:Ext H H') {kt:TypeId} {k:AV}: ∀ {es:List ME} {l:List AV},Dw.hits P H kt k es=some l→Dw.hits P H' kt k es=some l
 | [], _,hr=>hr
 | e::es,l,hr=>by
  unfold Dw.hits at hr ⊢
  split at hr
  ·rename_i h1 h2
   rw [h.eqA _ _ _ _ _ h1,Ext.hits h h2];exact hr
  ·rename_i h1 h2
   rw [h.eqA _ _ _ _ _ h1,Ext.hits h h2];exact hr
  ·cases hr
theorem Ext.lookupU {H':Heap} (h:Ext H H') {t:TypeId} {m kk v:AV} {ok:Bool} (hr:Dw.lookupU P H t m kk ok=some v):Dw.lookupU P H' t m kk ok=some v:=by
 unfold Dw.lookupU at hr ⊢
 split at hr
 case h_2=>cases hr
 rename_i kt et n cs hu
 split at hr
 case h_2=>cases hr
 rename_i len e es h1 h2
 rw [h1,h.mapuAt h2]
 split at hr
 case h_2=>cases hr
 rename_i s hs
 simp only [hs]
 split at hr
 ·rename_i h3 h4;rw [h3,h.hits h4];exact hr
 ·rename_i h3 h4;rw [h3,h.hits h4];exact hr
 ·cases hr
theorem Ext.lookupX {H':Heap} (h:Ext H H') {kd:TypeDesc} {et:TypeId} {m kk v:AV} {ok:Bool} (hr:Dw.lookupX P H kd et m kk ok=some v):Dw.entriesA H' m=none∧Dw.lookupX P H' kd et m kk ok=some v:=by
 unfold Dw.lookupX at hr ⊢
 split at hr
 case h_2=>cases hr
 rename_i n
 split at hr
 case h_2=>cases hr
 rename_i kn log h1 h2
 have h3:=h.m _ _ (zbT h1)
 have h4:H'.mapxAt n=some (kn,log):=by unfold Heap.mapxAt;rw [h3]
 refine ⟨?_,?_⟩
 ·unfold Dw.entriesA Heap.mapAt
  simp only [h3]
 ·simp only [h4,h2]
  exact hr
theorem Ext.lookupA {H':Heap} (h:Ext H H') {t:TypeId} {m kk v:AV} {ok:Bool} (hr:Dw.lookupA P H t m kk ok=some v):Dw.lookupA P H' t m kk ok=some v:=by
 unfold Dw.lookupA at hr ⊢
 split at hr
 ·exact h.lookupU hr
 rename_i kd et hm
 try rw [hm]
 split at hr
 ·obtain ⟨e1,e2⟩:=h.lookupX hr
  rw [e1];exact e2
 rename_i es he
 simp only [h.entriesA he]
 exact hr
theorem Ext.lenOfA {H':Heap} (h:Ext H H') {d:Option TypeDesc} {x v:AV} (hr:Dw.lenOfA d H x=some v):Dw.lenOfA d H' x=some v:=by
 unfold Dw.lenOfA at hr ⊢
 cases d with
 | none=>exact hr
 | some d=>
  cases d<;>simp only at hr ⊢ <;>try exact hr
  cases x<;>simp only at hr ⊢ <;>try exact hr
  split at hr
  ·rename_i es c hm
   simp only [h.mapAt hm]
   exact hr
  ·cases hr
theorem zxQ {op:Op} {H':Heap} {v:AV} (h:Ext H H') (hr:light P op env H=some v):light P op env H'=some v:=by
 cases op<;>simp only [light] at hr ⊢ <;>try exact hr
 case load t x=>
  unfold zBl at hr ⊢
  split at hr
  case h_2=>cases hr
  rename_i n off hx
  try rw [hx]
  split at hr
  case h_2=>cases hr
  rename_i vv hv
  simp only [h.row hv]
  exact hr
 case binOp op t x y t'=>
  unfold zq6 at hr ⊢
  split at hr
  case h_2=>cases hr
  rename_i p q hp hq
  try rw [hp,hq]
  exact h.binA hr
 case convert s d x=>
  unfold zgH at hr ⊢
  split at hr
  case h_2=>cases hr
  rename_i p hp
  try rw [hp]
  exact h.convA hr
 case slice t x lo hi mx=>
  unfold zq0 at hr ⊢
  split at hr
  case h_2=>cases hr
  rename_i p hp
  try rw [hp]
  split at hr
  ·exact hr
  ·unfold zi0 at hr ⊢
   split at hr
   case h_2=>cases hr
   split at hr
   case h_2=>cases hr
   split at hr
   case h_2=>cases hr
   rename_i h1 h2 h3
   simp only [h1,h2,h.m _ _ h3,h.gw]
   exact hr
 case lookup t x i ok=>
  unfold zkn at hr ⊢
  split at hr
  case h_2=>cases hr
  rename_i p q hp hq
  try rw [hp,hq]
  exact h.lookupA hr
 case entry x=>
  unfold zq4 at hr ⊢
  split at hr
  case h_2=>cases hr
  rename_i n hx
  try rw [hx]
  split at hr
  case h_2=>cases hr
  rename_i hm
  simp only [h.m _ _ hm]
  split at hr
  case h_2=>cases hr
  rename_i hse
  try rw [hse]
  split at hr
  case h_2=>cases hr
  rename_i hma
  simp only [h.mapAt hma]
  exact hr
 case call c=>
  unfold znK at hr ⊢
  cases hc:c.callee<;>rw [hc] at hr<;>try exact hr
  rename_i b
  cases b<;>try exact hr
  change lLen P _ _ env H=some v at hr
  change lLen P _ _ env H'=some v
  unfold lLen at hr ⊢
  split at hr
  case h_2=>cases hr
  rename_i h1 h2
  try rw [h1,h2]
  try simp only
  split at hr
  case h_2=>cases hr
  rename_i p hp
  try rw [hp]
  exact h.lenOfA hr
theorem zel {ms:List Nat}: ∀ {l:List Edge} {x:Nat},(zbB ms l).testBit x=true→ ∃e∈l,Region.binds .any e=true∧(x=e.on∨(ms.getD e.on 0).testBit x=true)
 | [], x,h=>by simp [zbB] at h
 | e::l,x,h=>by
  unfold zbB at h
  split at h
  ·rename_i hb
   rw [show Nat.lor (Nat.lor (2^e.on) (ms.getD e.on 0)) (zbB ms l)=((2^e.on)|||(ms.getD e.on 0))|||zbB ms l from rfl,Nat.testBit_or,Nat.testBit_or,Bool.or_eq_true,Bool.or_eq_true,Nat.testBit_two_pow,decide_eq_true_eq] at h
   rcases h with (h|h)|h
   ·exact ⟨e,List.mem_cons_self ..,hb,.inl h.symm⟩
   ·exact ⟨e,List.mem_cons_self ..,hb,.inr h⟩
   ·obtain ⟨e',h1,h2,h3⟩:=zel h
    exact ⟨e',List.mem_cons_of_mem _ h1,h2,h3⟩
  ·obtain ⟨e',h1,h2,h3⟩:=zel h
   exact ⟨e',List.mem_cons_of_mem _ h1,h2,h3⟩
theorem zc9: ∀(l:List Oper) (ms:List Nat) (i:Nat),i<ms.length→(zcp l ms)[i]? =ms[i]?
 | [], ms,i,_=>rfl
 | o::l,ms,i,h=>by
  unfold zcp
  rw [zc9 l _ i (by simp;omega),List.getElem?_append_left h]
theorem zd8: ∀(l:List Oper) (ms:List Nat) (i x:Nat) (o:Oper),l[i]? =some o→((zcp l ms).getD (ms.length+i) 0).testBit x=true→
  ∃ e∈o.after.toList,Region.binds .any e=true∧(x=e.on∨(e.on<ms.length+i∧((zcp l ms).getD e.on 0).testBit x=true))
 | [], ms,i,x,o,h,_=>by simp at h
 | o'::l,ms,0,x,o,h,hx=>by
  simp at h;subst h
  unfold zcp at hx ⊢
  rw [List.getD_eq_getElem?_getD,zc9 l _ _ (by simp),List.getElem?_append_right (by simp)] at hx
  simp at hx
  obtain ⟨e,h1,h2,h3⟩:=zel hx
  refine ⟨e,h1,h2,h3.imp id fun h3=> ?_⟩
  have hlt:e.on<ms.length:=by
   apply Classical.byContradiction
   intro hh
   rw [List.getD_eq_getElem?_getD,List.getElem?_eq_none (by omega)] at h3
   simp at h3
  refine ⟨by omega,?_⟩
  rw [List.getD_eq_getElem?_getD,zc9 l _ _ (by simp;omega),List.getElem?_append_left hlt,←List.getD_eq_getElem?_getD]
  exact h3
 | o'::l,ms,i+1,x,o,h,hx=>by
  unfold zcp at hx ⊢
  have:=zd8 l (ms++ [zbB ms o'.after.toList]) i x o (by simpa using h) (by simpa [Nat.add_assoc,Nat.add_comm 1 i] using hx)
  simpa [Nat.add_assoc,Nat.add_comm 1 i] using this
def zkU (ops:Array Oper) (listed:Array Bool):Prop:=
 ∀ (i:Nat) (o:Oper),ops[i]? =some o→listed.getD i false=true→ ∀e∈o.after,Region.binds .any e=true→listed.getD e.on false=true
theorem zkg {ops:Array Oper} {listed:Array Bool} (hc:zkU ops listed): ∀(i:Nat) (o:Oper),ops[i]? =some o→(∀e∈o.after,Region.binds .any e=true→listed.getD e.on false=true)→
  ∀ x,((zd9 ops.toList).getD i 0).testBit x=true→listed.getD x false=true:=by
 intro i
 induction i using Nat.strongRecOn with
 | _ i ih=>
  intro o ho hl x hx
  obtain ⟨e,h1,h2,h3⟩:=zd8 ops.toList [] i x o (by simpa using ho) (by simpa [zd9] using hx)
  have he:=hl e (by simpa using h1) h2
  rcases h3 with h3|⟨h3,h4⟩
  ·rw [h3];exact he
  ·have hlt:e.on<i:=by simpa using h3
   have hi:i<ops.size:=(Array.getElem?_eq_some_iff.1 ho).1
   have ho':ops[e.on]? =some ops[e.on]:=Array.getElem?_eq_getElem (by omega)
   exact ih e.on hlt _ ho' (fun e' g1 g2=>hc e.on _ ho' he e' g1 g2) x h4
theorem zmT {ops:Array Oper} {listed:Array Bool} (hc:zkU ops listed) {i:Nat} (hr:i∈Region.ready .any ops listed):zkU ops (listed.setIfInBounds i true):=by
 obtain ⟨h1,o,h2,h3⟩:=mem_ready.1 hr
 intro i' o' ho' hl' e he hb
 by_cases hi:i=i'
 ·subst hi
  rw [h2] at ho';cases ho'
  exact getD_set_true (h3 e he hb)
 ·rw [getD_set_ne false hi] at hl'
  exact getD_set_true (hc i' o' ho' hl' e he hb)
def zdk (ops:Array Oper):Prop:= ∀(i:Nat) (o:Oper),ops[i]? =some o→ ∀e∈o.after,Region.binds .any e=true→e.on<i
theorem zm8 {ops:Array Oper} {listed:Array Bool} (he:zdk ops) (hsz:listed.size=ops.size) (hr:Region.ready .any ops listed= []): ∀i,i<ops.size→listed.getD i false=true:=by
 intro i
 induction i using Nat.strongRecOn with
 | _ i ih=>
  intro hi
  cases hl:listed.getD i false with
  | true=>rfl
  | false=>
   exfalso
   have hl':listed.getD i true=false:=by
    rw [Array.getD_eq_getD_getElem?,Array.getElem?_eq_getElem (by omega)] at hl ⊢
    exact hl
   have:i∈Region.ready .any ops listed:=mem_ready.2 ⟨hl',ops[i],Array.getElem?_eq_getElem hi,fun e h1 h2=>by
    have hlt:=he i _ (Array.getElem?_eq_getElem hi) e h1 h2
    exact ih e.on hlt (by omega)⟩
   rw [hr] at this
   cases this
theorem zqN {hs:List Nat}: ∀ {l:List Oper} {ms:List Nat} {n:Nat} {p:PO},l.length=ms.length→(p∈posOf hs l ms n↔ ∃i,l[i]? =some p.o∧p.i=n+i∧ms[i]? =some p.m∧p.s=zct p.m hs 0 0)
 | [], ms,n,p,_=>by simp [posOf]
 | o::l,[],n,p,h=>by simp at h
 | o::l,m::ms,n,p,h=>by
  unfold posOf
  rw [List.mem_cons,zqN (l:=l) (by simpa using h)]
  constructor
  ·rintro (rfl|⟨i,h1,h2,h3,h4⟩)
   ·exact ⟨0,rfl,rfl,rfl,rfl⟩
   ·exact ⟨i+1,by simpa using h1,by rw [h2];omega,by simpa using h3,h4⟩
  ·rintro ⟨i,h1,h2,h3,h4⟩
   cases i with
   | zero=>
    left
    obtain ⟨po,pi,pm,ps⟩:=p
    simp at h1 h2 h3 h4
    subst h1 h2 h3 h4
    rfl
   | succ i=>exact .inr ⟨i,by simpa using h1,by rw [h2];omega,by simpa using h3,h4⟩
theorem zfA: ∀(l:List Oper) (ms:List Nat),(zcp l ms).length=ms.length+l.length
 | [], ms=>rfl
 | o::l,ms=>by unfold zcp;rw [zfA l];simp;omega
theorem zcI (l:List Oper):(zd9 l).length=l.length:=by unfold zd9;rw [zfA];simp
theorem ziW {m:Nat}: ∀(hs:List Nat) (t acc:Nat),acc≤t→acc≤zct m hs t acc
 | [], t,acc,_=>Nat.le_refl _
 | h::l,t,acc,ha=>by
  unfold zct
  split
  ·exact Nat.le_trans (Nat.le_succ_of_le ha) (ziW l _ _ (Nat.le_refl _))
  ·exact ziW l _ _ (Nat.le_succ_of_le ha)
theorem zg2 {m:Nat}: ∀(hs:List Nat) (t acc u h:Nat),acc≤t→hs[u]? =some h→m.testBit h=true→t+u+1≤zct m hs t acc
 | [], t,acc,u,h,_,hh,_=>by simp at hh
 | x::l,t,acc,0,h,ha,hh,hm=>by
  simp at hh;subst hh
  unfold zct
  rw [hm]
  exact ziW l _ _ (Nat.le_refl _)
 | x::l,t,acc,u+1,h,ha,hh,hm=>by
  unfold zct
  split
  ·have:=zg2 l (t+1) (t+1) u h (Nat.le_refl _) (by simpa using hh) hm
   show t+(u+1)+1≤zct m l (t+1) (t+1)
   omega
  ·have:=zg2 l (t+1) acc u h (by omega) (by simpa using hh) hm
   show t+(u+1)+1≤zct m l (t+1) acc
   omega
theorem zfE {m:Nat}: ∀(hs:List Nat) (t acc:Nat),acc≤t→zct m hs t acc=acc∨ ∃u h,hs[u]? =some h∧m.testBit h=true∧zct m hs t acc=t+u+1
 | [], t,acc,_=> .inl rfl
 | x::l,t,acc,ha=>by
  unfold zct
  split
  ·rename_i hm
   rcases zfE (m:=m) l (t+1) (t+1) (Nat.le_refl _) with h|⟨u,h,h1,h2,h3⟩
   ·exact .inr ⟨0,x,rfl,hm,h⟩
   ·exact .inr ⟨u+1,h,by simpa using h1,h2,by show zct m l (t+1) (t+1)=_;omega⟩
  ·rcases zfE (m:=m) l (t+1) acc (by omega) with h|⟨u,h,h1,h2,h3⟩
   ·exact .inl h
   ·exact .inr ⟨u+1,h,by simpa using h1,h2,by show zct m l (t+1) acc=_;omega⟩
end
end Go.Dw
namespace Go.Dw
def mkOf (ops:Array Oper) (i:Nat):Nat:=(zd9 ops.toList).getD i 0
def hsOf (ops:Array Oper):List Nat:=zcO ops.toList 0
def stOf (ops:Array Oper) (i:Nat):Nat:=zct (mkOf ops i) (hsOf ops) 0 0
def zdS (ops:Array Oper):List PO:=posOf (hsOf ops) ops.toList (zd9 ops.toList) 0
def hpOf (ops:Array Oper):List PO:=(zdS ops).filter fun p=>zbr p.o
structure PF (ops:Array Oper):Prop where
 edges:zdk ops
 chain: ∀u h h',(hsOf ops)[u]? =some h→(hsOf ops)[u+1]? =some h'→(mkOf ops h').testBit h=true
 reads: ∀(p q:Nat) (o oq:Oper) (t:Tmp),ops[p]? =some o→ops[q]? =some oq→oq.dst=some t→t∈looks ops o→(mkOf ops p).testBit q=true∨(mkOf ops q).testBit p=true
 dsts: ∀(p q:Nat) (o oq:Oper) (t:Tmp),p≠q→ops[p]? =some o→ops[q]? =some oq→o.dst=some t→oq.dst≠some t
 nodef: ∀(p:Nat) (o:Oper),ops[p]? =some o→zks o=false
 rer: ∀(u h p q:Nat) (o oq:Oper) (t:Tmp),(hsOf ops)[u]? =some h→ops[p]? =some o→zkr o=true→stOf ops p≤u→(mkOf ops h).testBit p=false→
  ops[q]? =some oq→oq.dst=some t→t∈looks ops o→(mkOf ops p).testBit q=true∨u<stOf ops q
theorem zef: ∀(l:List Oper) (n i:Nat),i∈zcO l n↔ ∃k o,i=n+k∧l[k]? =some o∧zbr o=true
 | [], n,i=>by simp [zcO]
 | o::l,n,i=>by
  unfold zcO
  split
  ·rename_i h
   rw [List.mem_cons,zef l (Nat.succ n) i]
   constructor
   ·rintro (rfl|⟨k,o',h1,h2,h3⟩)
    ·exact ⟨0,o,rfl,rfl,h⟩
    ·exact ⟨k+1,o',by omega,by simpa using h2,h3⟩
   ·rintro ⟨k,o',h1,h2,h3⟩
    cases k with
    | zero=>left;simpa using h1
    | succ k=>exact .inr ⟨k,o',by omega,by simpa using h2,h3⟩
  ·rename_i h
   rw [zef l (Nat.succ n) i]
   constructor
   ·rintro ⟨k,o',h1,h2,h3⟩
    exact ⟨k+1,o',by omega,by simpa using h2,h3⟩
   ·rintro ⟨k,o',h1,h2,h3⟩
    cases k with
    | zero=>
     simp only [List.getElem?_cons_zero,Option.some.injEq] at h2
     subst h2
     rw [h] at h3;cases h3
    | succ k=>exact ⟨k,o',by omega,by simpa using h2,h3⟩
theorem zdO: ∀(l:List Oper) (n:Nat),(zcO l n).Pairwise (· < ·)
 | [], n=>List.Pairwise.nil
 | o::l,n=>by
  unfold zcO
  split
  ·refine List.Pairwise.cons (fun i hi=> ?_) (zdO l _)
   obtain ⟨k,_,h,_⟩:=(zef l _ i).1 hi
   omega
  ·exact zdO l _
theorem zgL {ops:Array Oper} {i:Nat}:(∃u:Nat,(hsOf ops)[u]? =some i)↔ ∃o,ops[i]? =some o∧zbr o=true:=by
 rw [←List.mem_iff_getElem?]
 unfold hsOf
 rw [zef]
 constructor
 ·rintro ⟨k,o,h1,h2,h3⟩
  have e:i=k:=by omega
  subst e
  exact ⟨o,by simpa using h2,h3⟩
 ·rintro ⟨o,h2,h3⟩
  exact ⟨i,o,by omega,by simpa using h2,h3⟩
theorem ztp {ops:Array Oper} {u v x y:Nat} (h1:(hsOf ops)[u]? =some x) (h2:(hsOf ops)[v]? =some y) (h:x<y):u<v:=by
 apply Classical.byContradiction
 intro hn
 obtain ⟨hu,e1⟩:=List.getElem?_eq_some_iff.1 h1
 obtain ⟨hv,e2⟩:=List.getElem?_eq_some_iff.1 h2
 rcases Nat.lt_or_eq_of_le (Nat.le_of_not_lt hn) with hlt|heq
 ·have:=(List.pairwise_iff_getElem.1 (zdO ops.toList 0)) v u hv hu hlt
  change (hsOf ops)[v]<(hsOf ops)[u] at this
  omega
 ·subst heq
  rw [h1] at h2
  cases h2
  exact Nat.lt_irrefl _ h
theorem zvP {ops:Array Oper} {u v x:Nat} (h1:(hsOf ops)[u]? =some x) (h2:(hsOf ops)[v]? =some x):u=v:=by
 obtain ⟨hu,e1⟩:=List.getElem?_eq_some_iff.1 h1
 obtain ⟨hv,e2⟩:=List.getElem?_eq_some_iff.1 h2
 rcases Nat.lt_trichotomy u v with h|h|h
 ·have:=(List.pairwise_iff_getElem.1 (zdO ops.toList 0)) u v hu hv h
  change (hsOf ops)[u]<(hsOf ops)[v] at this
  omega
 ·exact h
 ·have:=(List.pairwise_iff_getElem.1 (zdO ops.toList 0)) v u hv hu h
  change (hsOf ops)[v]<(hsOf ops)[u] at this
  omega
theorem zgx {ops:Array Oper} {i x:Nat} (h:ops[i]? =none):(mkOf ops i).testBit x=false:=by
 unfold mkOf
 rw [List.getD_eq_getElem?_getD,List.getElem?_eq_none (by rw [zcI];simpa using h)]
 simp
theorem zkf {ops:Array Oper} (he:zdk ops): ∀(i x:Nat),(mkOf ops i).testBit x=true→x<i:=by
 intro i
 induction i using Nat.strongRecOn with
 | _ i ih=>
  intro x hx
  cases ho:ops[i]? with
  | none=>rw [zgx ho] at hx;cases hx
  | some o=>
   obtain ⟨e,h1,h2,h3⟩:=zd8 ops.toList [] i x o (by simpa using ho) (by simpa [mkOf,zd9] using hx)
   have hlt:=he i o ho e (by simpa using h1) h2
   rcases h3 with rfl|⟨h3,h4⟩
   ·exact hlt
   ·have:=ih e.on hlt x (by simpa [mkOf,zd9] using h4)
    omega
theorem zh1 {ms:List Nat}: ∀ {l:List Edge} {x:Nat} {e:Edge},e∈l→Region.binds .any e=true→(x=e.on∨(ms.getD e.on 0).testBit x=true)→(zbB ms l).testBit x=true
 | [], x,e,h,_,_=>by cases h
 | e'::l,x,e,h,hb,hx=>by
  unfold zbB
  rcases List.mem_cons.1 h with rfl|h
  ·rw [hb]
   show (((2^e.on)|||(ms.getD e.on 0))|||zbB ms l).testBit x=true
   rw [Nat.testBit_or,Nat.testBit_or,Nat.testBit_two_pow]
   rcases hx with rfl|hx
   ·simp
   ·rw [hx];simp
  ·have ih:=zh1 h hb hx
   split
   ·show (((2^e'.on)|||(ms.getD e'.on 0))|||zbB ms l).testBit x=true
    rw [Nat.testBit_or,ih];simp
   ·exact ih
theorem zhX: ∀(l:List Oper) (ms:List Nat) (i x:Nat) (o:Oper),l[i]? =some o→ ∀e∈o.after.toList,Region.binds .any e=true→e.on<ms.length+i→
  (x=e.on∨((zcp l ms).getD e.on 0).testBit x=true)→((zcp l ms).getD (ms.length+i) 0).testBit x=true
 | [], ms,i,x,o,h,_,_,_,_,_=>by simp at h
 | o'::l,ms,0,x,o,h,e,he,hb,hlt,hx=>by
  simp at h;subst h
  unfold zcp at hx ⊢
  rw [List.getD_eq_getElem?_getD,zc9 l _ _ (by simp),List.getElem?_append_right (by simp)]
  simp only [Nat.add_zero,Nat.sub_self,List.getElem?_cons_zero,Option.getD_some]
  refine zh1 he hb (hx.imp id fun hx=> ?_)
  rw [List.getD_eq_getElem?_getD,zc9 l _ _ (by simp;omega),List.getElem?_append_left (by omega),←List.getD_eq_getElem?_getD] at hx
  exact hx
 | o'::l,ms,i+1,x,o,h,e,he,hb,hlt,hx=>by
  unfold zcp at hx ⊢
  have:=zhX l (ms++ [zbB ms o'.after.toList]) i x o (by simpa using h) e he hb (by simp;omega) hx
  simpa [Nat.add_assoc,Nat.add_comm 1 i] using this
theorem zBb {ops:Array Oper} (he:zdk ops) {i x:Nat} {o:Oper} (ho:ops[i]? =some o) {e:Edge} (h1:e∈o.after) (h2:Region.binds .any e=true) (hx:x=e.on∨(mkOf ops e.on).testBit x=true):
  (mkOf ops i).testBit x=true:=by
 have:=zhX ops.toList [] i x o (by simpa using ho) e (by simpa using h1) h2 (by simpa using he i o ho e h1 h2) (by simpa [mkOf,zd9] using hx)
 simpa [mkOf,zd9] using this
theorem zxI {ops:Array Oper} (he:zdk ops): ∀(i x y:Nat),(mkOf ops i).testBit x=true→(mkOf ops x).testBit y=true→(mkOf ops i).testBit y=true:=by
 intro i
 induction i using Nat.strongRecOn with
 | _ i ih=>
  intro x y hx hy
  cases ho:ops[i]? with
  | none=>rw [zgx ho] at hx;cases hx
  | some o=>
   obtain ⟨e,h1,h2,h3⟩:=zd8 ops.toList [] i x o (by simpa using ho) (by simpa [mkOf,zd9] using hx)
   have hlt:=he i o ho e (by simpa using h1) h2
   refine zBb he ho (by simpa using h1) h2 (.inr ?_)
   rcases h3 with rfl|⟨h3,h4⟩
   ·exact hy
   ·exact ih e.on hlt x y (by simpa [mkOf,zd9] using h4) hy
theorem znf {ops:Array Oper} {i u x:Nat} (hu:(hsOf ops)[u]? =some x) (hx:(mkOf ops i).testBit x=true):u+1≤stOf ops i:=by
 have:=zg2 (m:=mkOf ops i) (hsOf ops) 0 0 u x (Nat.le_refl _) hu hx
 unfold stOf
 omega
theorem zne {ops:Array Oper} (i:Nat):stOf ops i=0∨ ∃u x,(hsOf ops)[u]? =some x∧(mkOf ops i).testBit x=true∧stOf ops i=u+1:=by
 rcases zfE (m:=mkOf ops i) (hsOf ops) 0 0 (Nat.le_refl _) with h|⟨u,x,h1,h2,h3⟩
 ·exact .inl h
 ·exact .inr ⟨u,x,h1,h2,by unfold stOf;omega⟩
theorem zr7 {ops:Array Oper} (he:zdk ops) {i x:Nat} (hx:(mkOf ops i).testBit x=true):stOf ops x≤stOf ops i:=by
 rcases zne (ops:=ops) x with h|⟨u,y,h1,h2,h3⟩
 ·omega
 ·have:=znf (i:=i) h1 (zxI he i x y hx h2)
  omega
def DD (ops:Array Oper) (s n i:Nat):Prop:=
 ∃ o,ops[i]? =some o∧((zbr o=false∧(stOf ops i<s∨stOf ops i=s∧i<n))∨(zbr o=true∧ ∃u,u<s∧(hsOf ops)[u]? =some i))
theorem zqO {ops:Array Oper} (he:zdk ops) {i x:Nat} (hx:(mkOf ops i).testBit x=true): ∃o,ops[x]? =some o:=by
 have hlt:=zkf he i x hx
 cases ho:ops[i]? with
 | none=>rw [zgx ho] at hx;cases hx
 | some o=>
  have:=(Array.getElem?_eq_some_iff.1 ho).1
  exact ⟨ops[x],Array.getElem?_eq_getElem (by omega)⟩
theorem zCB {ops:Array Oper} (he:zdk ops) {s n i x:Nat} (h:DD ops s n i) (hx:(mkOf ops i).testBit x=true):DD ops s n x:=by
 obtain ⟨o,ho,h⟩:=h
 obtain ⟨ox,hox⟩:=zqO he hx
 have hlt:=zkf he i x hx
 refine ⟨ox,hox,?_⟩
 cases hh:zbr ox with
 | true=>
  obtain ⟨u,hu⟩:=zgL.2 ⟨ox,hox,hh⟩
  refine .inr ⟨rfl,u,?_,hu⟩
  rcases h with ⟨_,h⟩|⟨_,v,hv,h⟩
  ·have:=znf (i:=i) hu hx
   omega
  ·have:=ztp hu h hlt
   omega
 | false=>
  refine .inl ⟨rfl,?_⟩
  rcases h with ⟨_,h⟩|⟨_,v,hv,h⟩
  ·have:=zr7 he hx
   omega
  ·rcases zne (ops:=ops) x with h0|⟨u,y,h1,h2,h3⟩
   ·omega
   ·have:=zkf he x y h2
    have:=ztp h1 h (by omega)
    omega
theorem zIX {ops:Array Oper} (he:zdk ops) {s i x:Nat} (hs:stOf ops i=s) (hx:(mkOf ops i).testBit x=true):DD ops s i x:=by
 obtain ⟨ox,hox⟩:=zqO he hx
 have hlt:=zkf he i x hx
 refine ⟨ox,hox,?_⟩
 cases hh:zbr ox with
 | true=>
  obtain ⟨u,hu⟩:=zgL.2 ⟨ox,hox,hh⟩
  have:=znf (i:=i) hu hx
  exact .inr ⟨rfl,u,by omega,hu⟩
 | false=>
  have:=zr7 he hx
  exact .inl ⟨rfl,by omega⟩
theorem zIU {ops:Array Oper} {s n:Nat} {o:Oper} (ho:ops[n]? =some o) (hv:zbr o=false) (hs:stOf ops n=s) (i:Nat):(DD ops s n i∨i=n)↔DD ops s (n+1) i:=by
 constructor
 ·rintro (⟨o',h1,h2⟩|rfl)
  ·refine ⟨o',h1,h2.imp (fun h=>⟨h.1,?_⟩) id⟩
   have:=h.2;omega
  ·exact ⟨o,ho,.inl ⟨hv,by omega⟩⟩
 ·rintro ⟨o',h1,h2|h2⟩
  ·by_cases hi:i=n
   ·exact .inr hi
   ·exact .inl ⟨o',h1,.inl ⟨h2.1,by have:=h2.2;omega⟩⟩
  ·exact .inl ⟨o',h1,.inr h2⟩
theorem zIV {ops:Array Oper} {s n:Nat} {o:Oper} (ho:ops[n]? =some o) (h:zbr o=true∨stOf ops n≠s) (i:Nat):DD ops s n i↔DD ops s (n+1) i:=by
 constructor
 ·rintro ⟨o',h1,h2⟩
  refine ⟨o',h1,h2.imp (fun h=>⟨h.1,?_⟩) id⟩
  have:=h.2;omega
 ·rintro ⟨o',h1,h2|h2⟩
  ·refine ⟨o',h1,.inl ⟨h2.1,?_⟩⟩
   by_cases hi:i=n
   ·subst hi
    rw [ho] at h1;cases h1
    rcases h with h|h
    ·rw [h] at h2;cases h2.1
    ·have:=h2.2;omega
   ·have:=h2.2;omega
  ·exact ⟨o',h1,.inr h2⟩
theorem zIW {ops:Array Oper} {s n:Nat} (hn:ops.size≤n) (i:Nat):DD ops s n i↔DD ops s ops.size i:=by
 constructor<;>rintro ⟨o',h1,h2⟩<;>have hlt:=(Array.getElem?_eq_some_iff.1 h1).1<;>
  exact ⟨o',h1,h2.imp (fun h=>⟨h.1,by have:=h.2;omega⟩) id⟩
theorem zEQ {ops:Array Oper} {s h:Nat} {o:Oper} (hu:(hsOf ops)[s]? =some h) (ho:ops[h]? =some o) (hv:zbr o=true) (i:Nat):(DD ops s ops.size i∨i=h)↔DD ops (s+1) 0 i:=by
 constructor
 ·rintro (⟨o',h1,h2⟩|rfl)
  ·refine ⟨o',h1,h2.imp (fun h=>⟨h.1,by have:=h.2;omega⟩) fun ⟨a,u,b,c⟩=>⟨a,u,by omega,c⟩⟩
  ·exact ⟨o,ho,.inr ⟨hv,s,by omega,hu⟩⟩
 ·rintro ⟨o',h1,h2|⟨h2,u,h3,h4⟩⟩
  ·have hlt:=(Array.getElem?_eq_some_iff.1 h1).1
   exact .inl ⟨o',h1,.inl ⟨h2.1,by have:=h2.2;omega⟩⟩
  ·by_cases hus:u=s
   ·subst hus;rw [hu] at h4;cases h4;exact .inr rfl
   ·exact .inl ⟨o',h1,.inr ⟨h2,u,by omega,h4⟩⟩
theorem zA9 {ops:Array Oper} {p:PO}:p∈zdS ops↔ops[p.i]? =some p.o∧p.m=mkOf ops p.i∧p.s=stOf ops p.i:=by
 unfold zdS
 rw [zqN (by rw [zcI])]
 constructor
 ·rintro ⟨i,h1,h2,h3,h4⟩
  have e:p.i=i:=by omega
  have hm:p.m=mkOf ops i:=by unfold mkOf;rw [List.getD_eq_getElem?_getD,h3];rfl
  rw [e]
  exact ⟨by simpa using h1,hm,by rw [h4,hm];rfl⟩
 ·rintro ⟨h1,h2,h3⟩
  have hlt:=(Array.getElem?_eq_some_iff.1 h1).1
  have hm:(zd9 ops.toList)[p.i]? =some p.m:=by
   rw [h2];unfold mkOf
   rw [List.getD_eq_getElem?_getD,List.getElem?_eq_getElem (by rw [zcI];simpa using hlt)];rfl
  exact ⟨p.i,by simpa using h1,by omega,hm,by rw [h3,h2];rfl⟩
theorem zeT {ops:Array Oper} {i:Nat} {o:Oper} (h:ops[i]? =some o):(⟨o,i,mkOf ops i,stOf ops i⟩:PO)∈zdS ops:=zA9.2 ⟨h,rfl,rfl⟩
theorem zm1 {ms:List Nat}: ∀ {l:List Nat} {u h h':Nat},chained ms l=true→l[u]? =some h→l[u+1]? =some h'→(ms.getD h' 0).testBit h=true
 | [], u,h,h',_,h1,_=>by simp at h1
 | x::l,u,h,h',hc,h1,h2=>by
  unfold chained at hc
  cases l with
  | nil=>simp at h2
  | cons y l=>
   simp only at hc
   split at hc
   ·rename_i hb
    cases u with
    | zero=>simp at h1 h2;subst h1 h2;exact hb
    | succ u=>exact zm1 hc (by simpa using h1) (by simpa using h2)
   ·cases hc
theorem zmR: ∀ {l:List PO},zkB l=true→ ∀p∈l,∀e∈p.o.after,Region.binds .any e=true→e.on<p.i
 | [], _,p,hp,_,_,_=>by cases hp
 | q::l,h,p,hp,e,he,hb=>by
  unfold zkB at h
  split at h
  case h_2=>cases h
  rename_i hq
  rcases List.mem_cons.1 hp with rfl|hp
  ·have:=List.all_eq_true.1 hq e (by simpa using he)
   rw [hb] at this
   rw [Nat.blt_eq] at this;exact this
  ·exact zmR h p hp e he hb
theorem zBA {hs:List Nat}: ∀ {l:List Oper} {ms:List Nat} {n:Nat},l.length=ms.length→((posOf hs l ms n).filter fun p=>zbr p.o).map (·.i)=zcO l n
 | [], ms,n,_=>by simp [posOf,zcO]
 | o::l,[],n,h=>by simp at h
 | o::l,m::ms,n,h=>by
  unfold posOf zcO
  rw [List.filter_cons]
  cases hv:zbr o with
  | true=>simp [hv,zBA (hs:=hs) (l:=l) (ms:=ms) (n:=n+1) (by simpa using h)]
  | false=>simp [hv,zBA (hs:=hs) (l:=l) (ms:=ms) (n:=n+1) (by simpa using h)]
theorem zvQ (ops:Array Oper):(hpOf ops).map (·.i)=hsOf ops:=zBA (by rw [zcI])
theorem zBB {ops:Array Oper} {u:Nat} {p:PO} (h:(hpOf ops)[u]? =some p):(hsOf ops)[u]? =some p.i∧ops[p.i]? =some p.o∧p.m=mkOf ops p.i∧zbr p.o=true:=by
 have hm:=List.mem_of_getElem? h
 unfold hpOf at hm
 rw [List.mem_filter,zA9] at hm
 refine ⟨?_,hm.1.1,hm.1.2.1,hm.2⟩
 rw [←zvQ,List.getElem?_map,h];rfl
theorem zfW (ops:Array Oper):(hpOf ops).length=(hsOf ops).length:=by rw [←zvQ];simp
theorem zdq {s hm:Nat} {p:PO}: ∀ {l:List PO},p∈zdm s hm l↔p∈l∧zkr p.o=true∧p.s≤s∧hm.testBit p.i=false
 | [] => by simp [zdm]
 | q::l=>by
  unfold zdm
  split
  ·rename_i h1 h2 h3
   rw [List.mem_cons,List.mem_cons,zdq]
   constructor
   ·rintro (rfl|h)
    ·exact ⟨.inl rfl,h1,Nat.le_of_ble_eq_true h2,h3⟩
    ·exact ⟨.inr h.1,h.2⟩
   ·rintro ⟨rfl|h,h'⟩
    ·exact .inl rfl
    ·exact .inr ⟨h,h'⟩
  ·rename_i hne
   rw [List.mem_cons,zdq]
   constructor
   ·rintro ⟨h,h'⟩;exact ⟨.inr h,h'⟩
   ·rintro ⟨rfl|h,h1,h2,h3⟩
    ·exact absurd h3 (hne h1 (by rw [Nat.ble_eq];exact h2))
    ·exact ⟨h,h1,h2,h3⟩
theorem zke {o:Oper}: ∀ {l:List PO},o∈zkc l↔ ∃p∈l,p.o=o
 | [] => by simp [zkc]
 | q::l=>by
  unfold zkc
  rw [List.mem_cons,zke]
  constructor
  ·rintro (rfl|⟨p,h,rfl⟩)
   ·exact ⟨q,List.mem_cons_self ..,rfl⟩
   ·exact ⟨p,List.mem_cons_of_mem _ h,rfl⟩
  ·rintro ⟨p,h,rfl⟩
   rcases List.mem_cons.1 h with rfl|h
   ·exact .inl rfl
   ·exact .inr ⟨p,h,rfl⟩
theorem zhD {ops:Array Oper} {all:List PO}: ∀ {l:List PO} {s u:Nat} {p:PO},zeB ops all s l=true→l[u]? =some p→(zdm (s+u) p.m all).all (znu ops all (s+u))=true
 | [], s,u,p,_,h=>by simp at h
 | q::l,s,u,p,h,hp=>by
  unfold zeB at h
  split at h
  case h_2=>cases h
  rename_i hq
  cases u with
  | zero=>simp at hp;subst hp;exact hq
  | succ u=>
   have:=zhD (s:=s+1) (u:=u) (p:=p) h (by simpa using hp)
   rw [show s+(u+1)=s+1+u by omega]
   exact this
theorem zm7 {l:List Nat} {t:Nat} (h:t∈l):l.any (Nat.beq t)=true:=List.any_eq_true.2 ⟨t,h,Nat.beq_refl t⟩
theorem zp2 {ops:Array Oper} {l:List zkS} (h:zAo ops=some l):PF ops∧l=zdn (zdS ops) 0 (hpOf ops):=by
 unfold zAo at h
 simp only at h
 split at h
 case h_2=>cases h
 rename_i hc
 change (chained (zd9 ops.toList) (hsOf ops)&&zkB (zdS ops)&&(zdS ops).all (zzu ops (zdS ops))&& !(ops.toList.any zks)&&zeB ops (zdS ops) 0 (hpOf ops))=true at hc
 rw [Bool.and_eq_true,Bool.and_eq_true,Bool.and_eq_true,Bool.and_eq_true] at hc
 obtain ⟨⟨⟨⟨c1,c2⟩,c3⟩,c4⟩,c5⟩:=hc
 refine ⟨⟨fun i o ho e he hb=>zmR c2 _ (zeT ho) e he hb,fun u h h' h1 h2=>zm1 c1 h1 h2,fun p q o oq t hp hq hd ht=> ?_,fun p q o oq t hne hp hq hd hdq=> ?_,fun p o hp=> ?_,fun u h p q o oq t hu hp hl hs hb hq hd ht=> ?_⟩,(Option.some.inj h).symm⟩
 ·have:=List.all_eq_true.1 (List.all_eq_true.1 c3 _ (zeT hp)) _ (zeT hq)
  simp only [hd,zm7 ht] at this
  cases hb:(mkOf ops p).testBit q with
  | true=>exact .inl rfl
  | false=>
   cases hb':(mkOf ops q).testBit p with
   | true=>exact .inr rfl
   | false=>simp [hb,hb'] at this
 ·have:=List.all_eq_true.1 (List.all_eq_true.1 c3 _ (zeT hp)) _ (zeT hq)
  simp only [hdq,hd] at this
  have e1:Nat.beq p q=false:=by cases e:Nat.beq p q with
   | false=>rfl
   | true=>exact absurd (Nat.eq_of_beq_eq_true e) hne
  split at this
  ·cases this
  ·simp [e1] at this
 ·have:=c4
  simp only [Bool.not_eq_true',List.any_eq_false] at this
  have:=this o (by have:=Array.mem_of_getElem? hp;simpa using this)
  simpa using this
 ·obtain ⟨hlt,_⟩:=List.getElem?_eq_some_iff.1 hu
  rw [←zfW] at hlt
  have hpo:(hpOf ops)[u]? =some (hpOf ops)[u]:=List.getElem?_eq_getElem hlt
  obtain ⟨g1,g2,g3,g4⟩:=zBB hpo
  rw [hu] at g1
  have e:h=(hpOf ops)[u].i:=Option.some.inj g1
  have hall:=zhD c5 hpo
  rw [Nat.zero_add,g3,←e] at hall
  have:=List.all_eq_true.1 hall ⟨o,p,mkOf ops p,stOf ops p⟩ (zdq.2 ⟨zeT hp,hl,hs,hb⟩)
  unfold znu at this
  have:=List.all_eq_true.1 this _ (zeT hq)
  simp only [hd,zm7 ht] at this
  cases hb:(mkOf ops p).testBit q with
  | true=>exact .inl rfl
  | false=>
   cases hb':Nat.blt u (stOf ops q) with
   | true=>rw [Nat.blt_eq] at hb';exact .inr hb'
   | false=>simp [hb,hb'] at this
theorem ziX {ops:Array Oper} (he:zdk ops) {v x:Nat} (hv:(hsOf ops)[v]? =some x):stOf ops x≤v:=by
 rcases zne (ops:=ops) x with h|⟨u,y,h1,h2,h3⟩
 ·omega
 ·have:=ztp h1 hv (zkf he x y h2)
  omega
section
variable {P:Program} {ρ:Val} {w0:Cx} {j:J} {H:Heap} {w:World} {N:Nat} {env:T AV} {a:Act} {o:Oper} {ops:Array Oper} {Q:Exit→Act→World→Prop}
theorem Inv.congrH {H':Heap} (h:Inv ρ w0 j H w) (hm: ∀n,H'.m.get n=H.m.get n) (hx:H'.nx=H.nx) (hg:H'.gw=H.gw):Inv ρ w0 j H' w:=by
 refine ⟨h.fr,fun n L e=>by rw [hx];exact h.dom n L e,h.blk,fun n o e=>by rw [hm] at e;rw [hx];exact h.used n o e,fun n L e=> ?_,fun n m Ln Lm hne e1 e2 q1 q2 hb=> ?_,fun n v e g t sh ow he=> ?_,fun g x he=> ?_,fun n L v e g c sh e1 e2=> ?_,h.fz,fun n L v e c sh e1 e2=> ?_,h.n0,by rw [hx];exact h.nx0,fun o e=>h.z0 o (by rw [←hm];exact e),?_⟩
 ·obtain ⟨o,h1,h2⟩:=h.obj n L e
  exact ⟨o,by rw [hm];exact h1,by rw [hg];exact h2⟩
 ·obtain ⟨vn,en,gn,cn,sn,on,vm,em,gm,cm,sm,om,h1,h2,h3⟩:=h.sep n m Ln Lm hne e1 e2 q1 q2 hb
  exact ⟨vn,en,gn,cn,sn,on,vm,em,gm,cm,sm,om,by rw [hm];exact h1,by rw [hm];exact h2,by rw [hg];exact h3⟩
 ·rw [hm] at he;rw [hx];exact h.tim n v e g t sh ow he
 ·rw [hg] at he;rw [hx];exact h.gwt g x he
 ·rw [hm] at e2;exact h.grp n L v e g c sh e1 e2
 ·rw [hm] at e2;exact h.off0 n L v e c sh e1 e2
 ·have:H'.gs=H.gs:=by unfold Heap.gs;rw [hm]
  rw [this];exact h.gho
theorem zdd (H:Heap) (o:Obj) (n:Nat):(H.alloc o).m.get n=if n=H.nx then some o else H.m.get n:=by
 rw [Heap.alloc_eq]
 exact T.get_set _ _ _ _
theorem zIb (H:Heap) (i:Nat) (o:Obj) (n:Nat):(H.upd i o).m.get n=if n=i then some o else H.m.get n:=by
 rw [Heap.upd_eq]
 exact T.get_set _ _ _ _
theorem Inv.realloc {o o':Obj} (h:Inv ρ w0 j (H.alloc o) w) {L:Loc} (hj:j H.nx=some L) (ho:zim o=true) (ho':zim o'=true) {ob:Go.Obj} (hob:zA4 ob=true)
  (hR: ∀w':World,w'.heap[L.blk]? =some ob→ObjR ρ j w0 w' H.gw L o'):Inv ρ w0 j (H.alloc o') { w with heap:=w.heap.setIfInBounds L.blk ob }:=by
 have hget:(H.alloc o).m.get H.nx=some o:=by rw [zdd,if_pos rfl]
 have hgw:(H.alloc o).gw=H.gw:=by rw [Heap.alloc_eq]
 have:=(h.setObj (o':=o') (ob:=ob) hj hget ho ho' hob (fun w' e=>by rw [hgw];exact hR w' e)).1
 refine this.congrH (fun n=> ?_) (by rw [Heap.upd_eq,Heap.alloc_eq,Heap.alloc_eq]) (by rw [Heap.upd_eq,Heap.alloc_eq,Heap.alloc_eq])
 rw [zdd,zIb,zdd]
 by_cases hn:n=H.nx
 ·rw [if_pos hn,if_pos hn]
 ·rw [if_neg hn,if_neg hn,if_neg hn]
theorem zCy: ∀ {es:List ME} {xs:List MapEntry} {e:ME} {x:MapEntry},RK ρ j es xs→R ρ j e.key x.key→R ρ j e.val x.val→RK ρ j (es++ [e]) (xs++ [x])
 | [], xs,e,x,h,h1,h2=>by have e:xs= []:=h;subst e;exact ⟨x,[],rfl,h1,h2,rfl⟩
 | a::es,_,e,x,h,h1,h2=>by
  obtain ⟨y,xs,rfl,g1,g2,g4⟩:=h
  exact ⟨y,_,rfl,g1,g2,zCy g4 h1 h2⟩
theorem zto {es:List ME} (hi:Inv ρ w0 j (H.alloc (.mapu es)) w) {L:Loc} (hj:j H.nx=some L) {t kt et e:TypeId} {len s:Nat} {kd:IntKind} (hu:P.underlying t=some (.map kt et)) (hkt:P.underlying kt=some (.array len e)) (hke:P.underlying e=some (.int kd)) (hs:szOf P e=some s)
  {cs:List AV} {v:AV} {uk ux:Value} (hk:R ρ j (.agg cs) uk) (hx:R ρ j v ux) (hp:zdv P e s cs len 0=true) (hh:hits P (H.alloc (.mapu es)) kt (.agg cs) es=some []):
  ∃ w',(Instr.mapUpdate t (.map (some L.blk)) uk ux).run P w= .ok () w'∧Inv ρ w0 j (H.alloc (.mapu (es++ [⟨.agg cs,v,0⟩]))) w':=by
 have hmu:(H.alloc (.mapu es)).mapuAt H.nx=some es:=by unfold Heap.mapuAt;rw [zdd,if_pos rfl]
 obtain ⟨arr,clock,es',hblk,hperm,hrk⟩:=hi.mapuAt hj hmu
 obtain ⟨o,ho1,ho2⟩:=hi.obj _ L hj
 rw [zdd,if_pos rfl] at ho1;cases ho1
 obtain ⟨hLq,hbase,hoff,_⟩:=ho2
 have hk':=hk
 obtain ⟨us,rfl,hus⟩:=hk'
 obtain ⟨l',h1,h2⟩:=zrg hperm hh
 have e1:l'= []:=List.perm_nil.1 h2
 subst e1
 have h3:(Instr.findAsking kt (.agg us.toArray) arr.toList 0).run P w= .ok none w:=zdx (P:=P) hi hk 0 hrk h1
 have hfk:(Instr.findKey kt (.agg us.toArray) arr.toList).run P w= .ok none w:=by
  unfold Instr.findKey
  simp only [Sem.run_bind,run_underlying hkt,Result.andThen_ok]
  cases hxs:arr.toList with
  | nil=>rfl
  | cons x xs=>
   have:Instr.findNow (.array len e) (.agg us.toArray) (x::xs) 0=none:=by
    unfold Instr.findNow
    have:Instr.sameNow (.array len e) (.agg us.toArray) x.key=none:=by unfold Instr.sameNow;rfl
    rw [this]
   rw [this]
   rw [hxs] at h3
   exact h3
 refine ⟨{ w with heap:=w.heap.setIfInBounds L.blk (.map (arr.push { key:= .agg us.toArray,val:=ux,born:=clock }) (clock+1)) },?_,?_⟩
 ·unfold Instr.mapUpdate
  simp only [Sem.run_bind,run_underlying hu,Result.andThen_ok,run_getObj_map P hblk,zeA hkt hke hs (by simpa using hus) hp false,hfk]
  exact run_setObj_map P hblk rfl
 ·refine hi.realloc hj rfl rfl rfl fun w' e=>⟨hLq,hbase,hoff,_,_,es'++ [⟨.agg cs,v,0⟩],e,hperm.append_right _,?_⟩
  rw [Array.toList_push]
  exact zCy hrk hk hx
theorem Inv.perm {es es':List ME} (h:Inv ρ w0 j (H.alloc (.mapu es)) w) {L:Loc} (hj:j H.nx=some L) (hp:es.Perm es'):Inv ρ w0 j (H.alloc (.mapu es')) w:=by
 obtain ⟨o,ho1,ho2⟩:=h.obj _ L hj
 rw [zdd,if_pos rfl] at ho1;cases ho1
 obtain ⟨hLq,hbase,hoff,arr,clock,es2,hblk,hperm,hrk⟩:=ho2
 have:=h.realloc (o':= .mapu es') (ob:= .map arr clock) hj rfl rfl rfl fun w' e=>⟨hLq,hbase,hoff,arr,clock,es2,e,hperm.trans hp,hrk⟩
 have e:w.heap.setIfInBounds L.blk (.map arr clock)=w.heap:=by
  apply Array.ext_getElem?
  intro i
  by_cases hi:i=L.blk
  ·subst hi
   have hlt:=(Array.getElem?_eq_some_iff.1 hblk).1
   rw [Array.getElem?_setIfInBounds_self,if_pos hlt,hblk]
  ·rw [Array.getElem?_setIfInBounds_ne (Ne.symm hi)]
 rw [e] at this
 exact this
theorem count_set {listed:Array Bool} {i:Nat} (h:listed.getD i true=false):(listed.setIfInBounds i true).count false+1=listed.count false:=by
 have hlt:i<listed.size:=by
  apply Classical.byContradiction
  intro hn
  rw [Array.getD_eq_getD_getElem?,Array.getElem?_eq_none (by omega)] at h
  cases h
 have hf:listed[i]=false:=by
  rw [Array.getD_eq_getD_getElem?,Array.getElem?_eq_getElem hlt] at h
  exact h
 have hpos:0<listed.count false:=Array.count_pos_iff.2 (by rw [←hf];exact Array.getElem_mem hlt)
 rw [Array.setIfInBounds_def,dif_pos hlt,Array.count_set]
 simp [hf]
 omega
theorem zyk {I:Array Bool→Act→World→Prop}
  (hend: ∀listed a w,listed.size=ops.size→Region.ready .any ops listed= []→I listed a w→Q .normal a w)
  (hstep: ∀listed a w i o,listed.size=ops.size→zkU ops listed→ops[i]? =some o→listed.getD i false=false→(∀e∈o.after,Region.binds .any e=true→listed.getD e.on false=true)→I listed a w→wpOp P ops Q i (I (listed.setIfInBounds i true)) a w):
  ∀ (fuel:Nat) (listed:Array Bool) (a:Act) (w:World),listed.size=ops.size→zkU ops listed→listed.count false≤fuel→I listed a w→wpAny P .any ops Q fuel listed a w:=by
 intro fuel
 induction fuel with
 | zero=>
  intro listed a w hsz hcl hc hI
  have hr:Region.ready .any ops listed= []:=by
   rw [List.eq_nil_iff_forall_not_mem]
   intro i hi
   have:=count_set (mem_ready.1 hi).1
   omega
  exact ⟨hr,hend listed a w hsz hr hI⟩
 | succ fuel ih=>
  intro listed a w hsz hcl hc hI
  refine ⟨fun hr=>hend listed a w hsz hr hI,fun i hi=> ?_⟩
  obtain ⟨hun,o,ho,hedges⟩:=mem_ready.1 hi
  have hlt:=(Array.getElem?_eq_some_iff.1 ho).1
  have hun':listed.getD i false=false:=by
   rw [Array.getD_eq_getD_getElem?,Array.getElem?_eq_getElem (by omega)] at hun ⊢
   exact hun
  refine wpOp_mono (fun a' w' hI'=> ?_) (hstep listed a w i o hsz hcl ho hun' hedges hI)
  exact ih _ a' w' (by simp [hsz]) (zmT hcl hi) (by have:=count_set hun;omega) hI'
theorem znv {t:Nat} {v:AV} (h:Nat.blt t zaP=true) (hv:env.get t=some v) (hn:v≠ .junk:=by (intro hh;cases hh)):opd env (.tmp t)=some v:=by
 unfold opd
 simp only [h,hv]
theorem ziC (hg:o.guard=none) (y:Nat→Option Bool):Region.wanted o y=true:=by unfold Region.wanted;rw [hg]
theorem zeU {i:Nat} {u:Value} {w':World} {K:Act→World→Prop} (ho:ops[i]? =some o) (hg:o.guard=none) (h:(execOp a.eval o).run P w= .ok (.value u) w') (hK:K (a.put o.dst u) w'):wpOp P ops Q i K a w:=by
 unfold wpOp
 rw [ho]
 simp only
 rw [if_pos (ziC hg _)]
 refine .inl ?_
 unfold Oper.wp
 rw [h]
 exact hK
theorem zyj {i:Nat} {w':World} {K:Act→World→Prop} (ho:ops[i]? =some o) (hg:o.guard=none) (h:(execOp a.eval o).run P w= .ok .skip w') (hK:K (a.put o.dst undef) w'):wpOp P ops Q i K a w:=by
 unfold wpOp
 rw [ho]
 simp only
 rw [if_pos (ziC hg _)]
 refine .inl ?_
 unfold Oper.wp
 rw [h]
 exact hK
theorem zrT {a b c d e f:Bool} (h:zCs a b c d e f=true):a=true∧b=true∧c=true∧d=true∧e=true∧f=true:=by
 cases a<;>cases b<;>cases c<;>cases d<;>cases e<;>cases f<;>first|(cases h;done)|exact ⟨rfl,rfl,rfl,rfl,rfl,rfl⟩
def zep (o:Oper) (i:Nat):Prop:= ∃e∈o.after,Region.binds .any e=true∧e.on=i
theorem zok {i:Nat}: ∀ {l:List Edge},ztR i l=true→ ∃e∈l,Region.binds .any e=true∧e.on=i
 | [], h=>by cases h
 | e::l,h=>by
  unfold ztR at h
  split at h
  ·rename_i hb
   unfold zCk at hb
   split at hb
   ·rename_i hb2;exact ⟨e,List.mem_cons_self ..,hb2,zav hb⟩
   ·cases hb
  ·obtain ⟨e',h1,h2⟩:=zok h
   exact ⟨e',List.mem_cons_of_mem _ h1,h2⟩
theorem zig {i:Nat} (h:waits o i=true):zep o i:=by
 obtain ⟨e,h1,h2⟩:=zok h
 exact ⟨e,by simpa using h1,h2⟩
theorem ziD: ∀ {n:Nat},zih o n=true→ ∀i,i<n→zep o i
 | 0,_,i,hi=>by omega
 | n+1,h,i,hi=>by
  unfold zih at h
  split at h
  ·rename_i hb
   rcases Nat.lt_or_ge i n with h1|h1
   ·exact ziD h i h1
   ·have:i=n:=by omega
    subst this
    exact zig hb
  ·cases h
theorem zBs {t m:Nat} (h:zBt o=some (t,m)):o.op= .makeMap t none∧o.dst=some m∧o.guard=none:=by
 unfold zBt at h
 split at h
 ·cases h;exact ⟨by assumption,by assumption,by assumption⟩
 ·cases h
theorem zxZ {t d:Nat} {ps:Array (Nat×Operand)} (h:ztn o=some (t,ps,d)):o.op= .build t ps∧o.dst=some d∧o.guard=none:=by
 unfold ztn at h
 split at h
 ·cases h;exact ⟨by assumption,by assumption,by assumption⟩
 ·cases h
theorem ztl {t m d:Nat} {v:Value} (h:znO o=some (t,m,d,v)):o.op= .insert t (.tmp m) (.tmp d) (.const v)∧o.dst=none∧o.guard=none:=by
 unfold znO at h
 split at h
 ·cases h;exact ⟨by assumption,by assumption,by assumption⟩
 ·cases h
theorem zBp {s d:Nat} (h:isMv o=some (s,d)):(o.op= .move (.tmp s)∨o.op= .assign (.tmp s))∧o.dst=some d∧o.guard=none:=by
 unfold isMv at h
 split at h
 ·cases h;exact ⟨.inl (by assumption),by assumption,by assumption⟩
 ·cases h;exact ⟨.inr (by assumption),by assumption,by assumption⟩
 ·cases h
theorem zmS {env:T AV}: ∀ {l:List (Nat×Operand)},zn2 l=true→partsOf env l=partsOf .leaf l
 | [], _=>rfl
 | p::l,h=>by
  unfold zn2 at h
  split at h
  ·rename_i v hv
   unfold partsOf
   rw [zmS h,hv]
   rfl
  ·cases h
structure zGd (P:Program) (t kt m:Nat) (o1 o2:Oper) (x:LitE) (i:Nat):Prop where
 build: ∃ps,o1.op= .build kt ps∧ ∀env,zgV P env kt ps.toList=some (.agg x.cs)
 dst1:o1.dst=some x.d
 g1:o1.guard=none
 ins: ∃V,o2.op= .insert t (.tmp m) (.tmp x.d) (.const V)∧ofValue V=some x.v
 dst2:o2.dst=none
 g2:o2.guard=none
 w0:zep o2 0
 wi:zep o2 i
theorem zgD {t kt m:Nat}: ∀ {l:List Oper} {i:Nat} {es:List LitE} {r:List Oper},zfi P t kt m i l=some (es,r)→l=l.take (2*es.length)++r∧2*es.length≤l.length∧ ∀q x,es[q]? =some x→ ∃o1 o2,l[2*q]? =some o1∧l[2*q+1]? =some o2∧zGd P t kt m o1 o2 x (i+2*q)
 | [], i,es,r,h=>by
  unfold zfi at h;cases h
  exact ⟨rfl,by simp,fun q x hx=>by simp at hx⟩
 | [o1],i,es,r,h=>by
  unfold zfi at h;cases h
  exact ⟨rfl,by simp,fun q x hx=>by simp at hx⟩
 | o1::o2::rest,i,es,r,h=>by
  unfold zfi at h
  split at h
  ·rename_i bt ps d t' m' d' V hb hn
   split at h
   case h_2=>cases h
   rename_i cs v l r' hand hcon hbu hof hrec
   cases h
   obtain ⟨e1,e2,e3,e4,e5,e6⟩:=zrT hand
   have e1:=zav e1
   have e2:=zav e2
   have e3:=zav e3
   have e4:=zav e4
   subst e1 e2 e3 e4
   obtain ⟨b1,b2,b3⟩:=zxZ hb
   obtain ⟨n1,n2,n3⟩:=ztl hn
   obtain ⟨h1,h2,h3⟩:=zgD hrec
   refine ⟨?_,by simp;omega,fun q x hx=> ?_⟩
   ·simp only [List.length_cons,Nat.mul_add,Nat.mul_one,Nat.add_comm _ 2]
    rw [show 2+2*l.length=(2*l.length+1)+1 by omega,List.take_succ_cons,List.take_succ_cons,List.cons_append,List.cons_append]
    rw [←h1]
   ·cases q with
    | zero=>
     simp at hx
     subst hx
     refine ⟨o1,o2,rfl,rfl,⟨ps,b1,fun env=> ?_⟩,b2,b3,⟨V,n1,hof⟩,n2,n3,zig e5,zig e6⟩
     have:zgV P env bt ps.toList=zgV P .leaf bt ps.toList:=by unfold zgV;rw [zmS hcon]
     rw [this];exact hbu
    | succ q=>
     obtain ⟨p1,p2,q1,q2,q3⟩:=h3 q x (by simpa using hx)
     refine ⟨p1,p2,?_,?_,?_⟩
     ·rw [show 2*(q+1)=2*q+1+1 by omega];simpa using q1
     ·rw [show 2*(q+1)+1=2*q+1+1+1 by omega];simpa using q2
     ·have:i+2*(q+1)=Nat.succ (Nat.succ i)+2*q:=by omega
      rw [this];exact q3
  ·cases h
   exact ⟨rfl,by simp,fun q x hx=>by simp at hx⟩
theorem zeS {kt:TypeId} {x:LitE}: ∀ {l:List LitE},zdR P H kt x l=true→ ∀y∈l,y.d=x.d∨eqA P H 8 kt (.agg x.cs) (.agg y.cs)=some (.lit false)
 | [], _,y,hy=>by cases hy
 | z::l,h,y,hy=>by
  unfold zdR at h
  split at h
  ·rename_i hb
   rcases List.mem_cons.1 hy with rfl|hy
   ·exact .inl (zav hb).symm
   ·exact zeS h y hy
  ·rename_i hb he
   rcases List.mem_cons.1 hy with rfl|hy
   ·exact .inr he
   ·exact zeS h y hy
  ·cases h
theorem zq8 {kt e:TypeId} {s len:Nat} {all:List LitE}: ∀ {l:List LitE},zvI P H kt e s len all l=true→ ∀x∈l,zdR P H kt x all=true∧zdv P e s x.cs len 0=true
 | [], _,y,hy=>by cases hy
 | z::l,h,y,hy=>by
  unfold zvI at h
  split at h
  ·rename_i h1 h2
   rcases List.mem_cons.1 hy with rfl|hy
   ·exact ⟨h1,h2⟩
   ·exact zq8 h y hy
  ·cases h
theorem zqL: ∀ {l:List Nat},zgu l=true→l.Nodup
 | [], _=>List.nodup_nil
 | n::l,h=>by
  unfold zgu at h
  split at h
  ·cases h
  ·rename_i hb
   refine List.nodup_cons.2 ⟨fun hm=> ?_,zqL h⟩
   rw [List.any_eq_false] at hb
   exact hb n hm (Nat.beq_refl n)
theorem zeH {r:List (Option (Nat×AV))}: ∀ {es:List LitE},(∀q x,es[q]? =some x→(zbb es r)[2*q]? =some (some (x.d,.agg x.cs))∧(zbb es r)[2*q+1]? =some none)∧ ∀i,(zbb es r)[2*es.length+i]? =r[i]?
 | [] => ⟨fun q x h=>by simp at h,fun i=>by simp [zbb]⟩
 | e::es=>by
  obtain ⟨h1,h2⟩:=zeH (r:=r) (es:=es)
  refine ⟨fun q x hx=> ?_,fun i=> ?_⟩
  ·cases q with
   | zero=>simp at hx;subst hx;exact ⟨rfl,rfl⟩
   | succ q=>
    obtain ⟨g1,g2⟩:=h1 q x (by simpa using hx)
    rw [show 2*(q+1)=2*q+1+1 by omega]
    exact ⟨by simpa [zbb] using g1,by simpa [zbb] using g2⟩
  ·rw [List.length_cons,show 2*(es.length+1)+i=(2*es.length+i)+1+1 by omega]
   simpa [zbb] using h2 i
theorem ztc {nx m dm da:Nat} {es:List LitE}:(zaZ nx m dm da es)[0]? =some (some (m,.map nx))∧(∀q x,es[q]? =some x→(zaZ nx m dm da es)[1+2*q]? =some (some (x.d,.agg x.cs))∧(zaZ nx m dm da es)[2+2*q]? =some none)∧
  (zaZ nx m dm da es)[1+2*es.length]? =some (some (dm,.map nx))∧(zaZ nx m dm da es)[2+2*es.length]? =some (some (da,.map nx)):=by
 obtain ⟨h1,h2⟩:=zeH (r:= [some (dm,.map nx),some (da,.map nx)]) (es:=es)
 refine ⟨rfl,fun q x hx=> ?_,?_,?_⟩
 ·obtain ⟨g1,g2⟩:=h1 q x hx
  rw [show 1+2*q=2*q+1 by omega,show 2+2*q=2*q+1+1 by omega]
  exact ⟨by simpa [zaZ] using g1,by simpa [zaZ] using g2⟩
 ·rw [show 1+2*es.length=(2*es.length+0)+1 by omega]
  simpa [zaZ] using h2 0
 ·rw [show 2+2*es.length=(2*es.length+1)+1 by omega]
  simpa [zaZ] using h2 1
theorem zh2 {r:List (Option (Nat×AV))}: ∀ {es:List LitE},dstsOf (zbb es r)=es.map (·.d)++dstsOf r
 | [] => rfl
 | e::es=>by simp [zbb,dstsOf,zh2 (r:=r) (es:=es)]
theorem zlc {nx nx' m dm da:Nat} {es:List LitE}:dstsOf (zaZ nx m dm da es)=dstsOf (zaZ nx' m dm da es):=by
 simp [zaZ,dstsOf,zh2]
theorem zcz {t:Nat}: ∀ {l:List (Option (Nat×AV))},t∈dstsOf l↔ ∃(i:Nat) (v:AV),l[i]? =some (some (t,v))
 | [] => by simp [dstsOf]
 | none::l=>by
  unfold dstsOf
  rw [zcz (l:=l)]
  constructor
  ·rintro ⟨i,v,h⟩;exact ⟨i+1,v,by simpa using h⟩
  ·rintro ⟨i,v,h⟩
   cases i with
   | zero=>simp at h
   | succ i=>exact ⟨i,v,by simpa using h⟩
 | some p::l=>by
  unfold dstsOf
  rw [List.mem_cons,zcz (l:=l)]
  constructor
  ·rintro (rfl|⟨i,v,h⟩)
   ·exact ⟨0,p.2,rfl⟩
   ·exact ⟨i+1,v,by simpa using h⟩
  ·rintro ⟨i,v,h⟩
   cases i with
   | zero=>simp at h;subst h;exact .inl rfl
   | succ i=>exact .inr ⟨i,v,by simpa using h⟩
theorem ziv: ∀ {l:List (Option (Nat×AV))} {i i' d:Nat} {v v':AV},(dstsOf l).Nodup→l[i]? =some (some (d,v))→l[i']? =some (some (d,v'))→i=i'
 | [], i,i',d,v,v',_,h,_=>by simp at h
 | none::l,i,i',d,v,v',hn,h,h'=>by
  cases i with
  | zero=>simp at h
  | succ i=>
   cases i' with
   | zero=>simp at h'
   | succ i'=>exact congrArg Nat.succ (ziv (l:=l) (d:=d) (v:=v) (v':=v') hn (by simpa using h) (by simpa using h'))
 | some p::l,i,i',d,v,v',hn,h,h'=>by
  obtain ⟨h1,h2⟩:=List.nodup_cons.1 (show (p.1::dstsOf l).Nodup from hn)
  cases i with
  | zero=>
   simp at h;subst h
   cases i' with
   | zero=>rfl
   | succ i'=>exact absurd (zcz.2 ⟨i',v',by simpa using h'⟩) h1
  | succ i=>
   cases i' with
   | zero=>simp at h';subst h';exact absurd (zcz.2 ⟨i,v,by simpa using h⟩) h1
   | succ i'=>exact congrArg Nat.succ (ziv (l:=l) (d:=d) (v:=v) (v':=v') h2 (by simpa using h) (by simpa using h'))
theorem zdZ: ∀ {l:List (Option (Nat×AV))} {env:T AV} {t:Nat},t∉dstsOf l→(zkW env l).get t=env.get t
 | [], _,_,_=>rfl
 | none::l,env,t,h=>zdZ (l:=l) h
 | some p::l,env,t,h=>by
  unfold zkW
  have h:t∉p.1::dstsOf l:=h
  rw [zdZ (l:=l) (fun hh=>h (List.mem_cons_of_mem _ hh)),T.get_set_ne _ _ (fun e=>h (by rw [e];exact List.mem_cons_self ..))]
theorem zng: ∀ {l:List (Option (Nat×AV))} {env:T AV} {i d:Nat} {v:AV},(dstsOf l).Nodup→l[i]? =some (some (d,v))→(zkW env l).get d=some v
 | [], _,i,d,v,_,h=>by simp at h
 | none::l,env,i,d,v,hn,h=>by
  cases i with
  | zero=>simp at h
  | succ i=>exact zng (l:=l) hn (by simpa using h)
 | some p::l,env,i,d,v,hn,h=>by
  obtain ⟨h1,h2⟩:=List.nodup_cons.1 (show (p.1::dstsOf l).Nodup from hn)
  unfold zkW
  cases i with
  | zero=>
   simp at h;subst h
   rw [zdZ h1,T.get_set_same]
  | succ i=>exact zng (l:=l) h2 (by simpa using h)
def zla (es:List LitE) (q:Nat):ME:=match es[q]? with|some x=>⟨.agg x.cs,x.v,0⟩|none=>⟨zbR,zbR,0⟩
theorem zqW: ∀(es:List LitE),zki es=(List.range es.length).map (zla es)
 | [] => rfl
 | e::es=>by
  rw [List.length_cons,List.range_succ_eq_map,List.map_cons,List.map_map]
  show _::zki es=_
  rw [zqW es]
  rfl
structure zEP (P:Program) (N:Nat) (H:Heap) (ops:Array Oper) (r:LitR) where
 t:TypeId
 kt:TypeId
 et:TypeId
 e:TypeId
 len:Nat
 s:Nat
 kd:IntKind
 hu:P.underlying t=some (.map kt et)
 hkt:P.underlying kt=some (.array len e)
 hke:P.underlying e=some (.int kd)
 hs:szOf P e=some s
 mkd: ∃o,ops[0]? =some o∧o.op= .makeMap t none∧o.dst=some r.m∧o.guard=none
 prs: ∀q x,r.es[q]? =some x→ ∃o1 o2,ops[1+2*q]? =some o1∧ops[2+2*q]? =some o2∧zGd P t kt r.m o1 o2 x (1+2*q)
 mv: ∃o,ops[1+2*r.es.length]? =some o∧(o.op= .move (.tmp r.m)∨o.op= .assign (.tmp r.m))∧o.dst=some r.dm∧o.guard=none∧ ∀i,i<1+2*r.es.length→zep o i
 asn: ∃o,ops[2+2*r.es.length]? =some o∧(o.op= .move (.tmp r.dm)∨o.op= .assign (.tmp r.dm))∧o.dst=some r.da∧o.guard=none∧zep o (1+2*r.es.length)
 sz:ops.size=3+2*r.es.length
 up:zdk ops
 nd:(dstsOf (zaZ 0 r.m r.dm r.da r.es)).Nodup
 lt: ∀d∈dstsOf (zaZ 0 r.m r.dm r.da r.es),d<N
 keys: ∀x∈r.es,zdv P e s x.cs len 0=true∧ ∀y∈r.es,y.d=x.d∨eqA P H 8 kt (.agg x.cs) (.agg y.cs)=some (.lit false)
theorem zmQ: ∀ {l:List Oper} {n:Nat},znW n l=true→ ∀i o,l[i]? =some o→ ∀e∈o.after,Region.binds .any e=true→e.on<n+i
 | [], n,_,i,o,h,_,_,_=>by simp at h
 | o'::l,n,hu,i,o,h,e,he,hb=>by
  unfold znW at hu
  split at hu
  ·rename_i hall
   cases i with
   | zero=>
    simp at h;subst h
    have:=List.all_eq_true.1 hall e (by simpa using he)
    rw [hb] at this
    simp only [Nat.blt_eq] at this
    omega
   | succ i=>
    have:=zmQ hu i o (by simpa using h) e he hb
    omega
  ·cases hu
theorem ztd {r:LitR} (h:zEf P N H ops.toList=some r):Nonempty (zEP P N H ops r):=by
 unfold zEf at h
 split at h
 ·cases h
 rename_i o rest hops
 split at h
 ·cases h
 rename_i t m hmk
 split at h
 case h_2=>cases h
 rename_i kt et hu
 split at h
 case h_2=>cases h
 rename_i len e hia
 obtain ⟨hkt,kd,hke⟩:=zrc hia
 split at h
 case h_2=>cases h
 rename_i s es mv ma hs hpr
 split at h
 case h_2=>cases h
 rename_i s1 dm s2 da hmv has
 split at h
 case h_2=>cases h
 rename_i hand hkeys hup
 cases h
 obtain ⟨e1,e2,e3,e4,e5,e6⟩:=zrT hand
 have e1:=zav e1
 have e2:=zav e2
 subst e1 e2
 obtain ⟨k1,k2,k3⟩:=zBs hmk
 obtain ⟨m1,m2,m3⟩:=zBp hmv
 obtain ⟨a1,a2,a3⟩:=zBp has
 obtain ⟨p1,p2,p3⟩:=zgD hpr
 have hlen:rest.length=2*es.length+2:=by
  have:=congrArg List.length p1
  rw [List.length_append,List.length_take,Nat.min_eq_left p2] at this
  simpa using this
 have hget: ∀i:Nat,ops[i]? =(o::rest)[i]? :=fun i=>by rw [←hops];simp
 have htail: ∀i,rest[2*es.length+i]? = [mv,ma][i]? :=fun i=>by
  rw [p1,List.getElem?_append_right (by rw [List.length_take];omega),List.length_take,Nat.min_eq_left p2,Nat.add_sub_cancel_left]
 refine ⟨⟨t,kt,et,e,len,s,kd,hu,hkt,hke,hs,⟨o,by rw [hget];rfl,k1,k2,k3⟩,fun q x hx=> ?_,⟨mv,?_,m1,m2,m3,fun i hi=>ziD e3 i (by simpa [Nat.add_comm] using hi)⟩,⟨ma,?_,a1,a2,a3,?_⟩,?_,?_,zqL e5,fun d hd=> ?_,fun x hx=> ?_⟩⟩
 ·obtain ⟨o1,o2,q1,q2,q3⟩:=p3 q x hx
  refine ⟨o1,o2,?_,?_,q3⟩
  ·rw [hget,show 1+2*q=2*q+1 by omega];simpa using q1
  ·rw [hget,show 2+2*q=2*q+1+1 by omega];simpa using q2
 ·rw [hget,show 1+2*es.length=(2*es.length+0)+1 by omega,List.getElem?_cons_succ]
  exact htail 0
 ·rw [hget,show 2+2*es.length=(2*es.length+1)+1 by omega,List.getElem?_cons_succ]
  exact htail 1
 ·have:=zig e4
  rw [show 1+2*es.length=Nat.succ (Nat.mul 2 es.length) by show 1+2*es.length=2*es.length+1;omega]
  exact this
 ·have:ops.toList.length=rest.length+1:=by rw [hops];rfl
  rw [Array.length_toList] at this
  show ops.size=3+2*es.length
  omega
 ·intro i o' ho' e' he' hb'
  have:=zmQ hup i o' (by simpa using ho') e' he' hb'
  omega
 ·have:=List.all_eq_true.1 e6 d hd
  rw [Nat.blt_eq] at this
  exact this
 ·obtain ⟨g1,g2⟩:=zq8 hkeys x hx
  exact ⟨g2,zeS g1⟩
theorem zmH {kt:TypeId} {k:AV}: ∀ {l:List ME},(∀x∈l,eqA P H 8 kt k x.key=some (.lit false))→hits P H kt k l=some []
 | [], _=>rfl
 | x::l,h=>by
  unfold hits
  rw [h x (List.mem_cons_self ..),zmH fun y hy=>h y (List.mem_cons_of_mem _ hy)]
theorem zH4 (hi:Inv ρ w0 j H w) {o:Obj}:Ext H (H.alloc o):=by
 refine ⟨fun n ob e=> ?_,by rw [Heap.alloc_eq]⟩
 rw [zdd,if_neg (fun hn=> ?_)]
 ·exact e
 ·subst hn
  exact absurd (hi.used _ _ e) (Nat.lt_irrefl _)
def LitI (ρ:Val) (w0:Cx) (j:J) (H:Heap) (N:Nat) (env:T AV) (r:LitR) (w:World) (listed:Array Bool) (a':Act) (w':World):Prop:=
 ∃ (env':T AV) (S:List Nat),ER ρ (jset j H.nx ⟨w.heap.size,0,0,none⟩) N env' a'∧
  (∀ i d v,(zaZ H.nx r.m r.dm r.da r.es)[i]? =some (some (d,v))→listed.getD i false=true→env'.get d=some v)∧
  (∀ t,(∀i v,(zaZ H.nx r.m r.dm r.da r.es)[i]? =some (some (t,v))→listed.getD i false=false)→env'.get t=env.get t)∧
  (listed.getD 0 false=false→w'=w)∧
  (listed.getD 0 false=true→Inv ρ w0 (jset j H.nx ⟨w.heap.size,0,0,none⟩) (H.alloc (.mapu (S.map (zla r.es)))) w')∧
  S.Nodup∧(∀q,q∈S↔q<r.es.length∧listed.getD (2+2*q) false=true)
theorem LitI.slot {r:LitR} {listed:Array Bool} {i d:Nat} {v:AV} {u:Value} {env':T AV} {a':Act} {j1:J} (hsz:i<listed.size)
  (hnd:(dstsOf (zaZ H.nx r.m r.dm r.da r.es)).Nodup) (hlt:d<N) (hv:(zaZ H.nx r.m r.dm r.da r.es)[i]? =some (some (d,v)))
  (he:ER ρ j1 N env' a') (h1: ∀i d v,(zaZ H.nx r.m r.dm r.da r.es)[i]? =some (some (d,v))→listed.getD i false=true→env'.get d=some v)
  (h2: ∀t,(∀i v,(zaZ H.nx r.m r.dm r.da r.es)[i]? =some (some (t,v))→listed.getD i false=false)→env'.get t=env.get t) (hR:R ρ j1 v u):
  ER ρ j1 N (env'.set d v) (a'.put (some d) u)∧(∀i' d' v',(zaZ H.nx r.m r.dm r.da r.es)[i']? =some (some (d',v'))→(listed.setIfInBounds i true).getD i' false=true→(env'.set d v).get d'=some v')∧
  (∀ t,(∀i' v',(zaZ H.nx r.m r.dm r.da r.es)[i']? =some (some (t,v'))→(listed.setIfInBounds i true).getD i' false=false)→(env'.set d v).get t=env.get t):=by
 refine ⟨he.put hlt hR,fun i' d' v' hv' hl=> ?_,fun t ht=> ?_⟩
 ·by_cases hii:i'=i
  ·subst hii
   rw [hv] at hv';cases hv'
   exact T.get_set_same _ _ _
  ·have hdd:d'≠d:=fun e=>by
    subst e
    exact hii (ziv hnd hv' hv)
   rw [T.get_set_ne _ _ hdd]
   rw [getD_set_ne false (Ne.symm hii)] at hl
   exact h1 i' d' v' hv' hl
 ·have htd:t≠d:=fun e=>by
   subst e
   have:=ht i v hv
   rw [Array.getD_eq_getD_getElem?,Array.getElem?_setIfInBounds_self,if_pos hsz] at this
   cases this
  rw [T.get_set_ne _ _ htd]
  refine h2 t fun i' v' hv'=> ?_
  have:=ht i' v' hv'
  by_cases hii:i'=i
  ·subst hii
   rw [hv] at hv';cases hv'
   exact absurd rfl htd
  ·rwa [getD_set_ne false (Ne.symm hii)] at this
theorem zus {listed:Array Bool} {i q:Nat} (hsz:i<listed.size):(listed.setIfInBounds i true).getD q false=true↔q=i∨listed.getD q false=true:=by
 by_cases h:q=i
 ·subst h
  simp [Array.getD_eq_getD_getElem?,Array.getElem?_setIfInBounds_self,hsz]
 ·rw [getD_set_ne false (Ne.symm h)]
  simp [h]
theorem zxP {r:LitR} (hmo:P.follows .mixedOrders=true) (hl:zEf P N H ops.toList=some r) (hi:Inv ρ w0 j H w) (he:ER ρ j N env a) {id:Nat} {k:T AV→Heap→Ob}
  (h:Ob.den ρ (k (zkW env (zaZ H.nx r.m r.dm r.da r.es)) (H.alloc (.mapu (zki r.es))))) (hQ: ∀a' w',OpsE ρ w0 j H N k a' w'→Q Exit.normal a' w'):(Code.region id ops true).wp P Q a w:=by
 obtain ⟨F⟩:=ztd hl
 have hdst:=zlc (nx:=H.nx) (nx':=0) (m:=r.m) (dm:=r.dm) (da:=r.da) (es:=r.es)
 have hnd:(dstsOf (zaZ H.nx r.m r.dm r.da r.es)).Nodup:=by rw [hdst];exact F.nd
 have hltd: ∀i d v,(zaZ H.nx r.m r.dm r.da r.es)[i]? =some (some (d,v))→d<N:=fun i d v hv=>F.lt d (by rw [←hdst];exact zcz.2 ⟨i,v,hv⟩)
 obtain ⟨v0,vq,vmv,vas⟩:=ztc (nx:=H.nx) (m:=r.m) (dm:=r.dm) (da:=r.da) (es:=r.es)
 have hfresh:=hi.fresh
 have hdis: ∀t,t<N→Nat.blt t zaP=true:=fun t ht=>by rw [Nat.blt_eq];exact Nat.lt_of_lt_of_le ht he.le
 obtain ⟨wd,hwd⟩: ∃wd:World,wd= { w with drawn:=w.drawn+1 }:=⟨_,rfl⟩
 have hiw:Inv ρ w0 j H wd:=by rw [hwd];exact hi.drew
 have hinj1:(jset j H.nx ⟨wd.heap.size,0,0,none⟩) H.nx=some ⟨wd.heap.size,0,0,none⟩:=za3 _ _ _
 refine wp_region_any hmo ?_
 rw [←hwd]
 have hsz0:(Array.replicate ops.size false).size=ops.size:=by simp
 have hfalse: ∀i,(Array.replicate ops.size false).getD i false=false:=fun i=>by
  rw [Array.getD_eq_getD_getElem?,Array.getElem?_replicate]
  split<;>rfl
 refine zyk (I:=LitI ρ w0 j H N env r wd) (fun listed a' w' hsz hr hI=> ?_) (fun listed a' w' i o hsz hcl ho hun hed hI=> ?_) ops.size _ _ _ hsz0 (fun i o _ hl=>by rw [hfalse] at hl;cases hl) (Nat.le_trans (Array.count_le_size) (by simp)) ?_
 ·
  obtain ⟨env',S,hE,g1,g2,_,g4,g5,g6⟩:=hI
  have hall:=zm8 F.up hsz hr
  have hszF:=F.sz
  have hinv:=g4 (hall 0 (by omega))
  have hperm:(S.map (zla r.es)).Perm (zki r.es):=by
   rw [zqW]
   refine List.Perm.map _ ((List.perm_ext_iff_of_nodup g5 List.nodup_range).2 fun q=> ?_)
   rw [g6,List.mem_range]
   constructor
   ·exact fun h=>h.1
   ·exact fun h=>⟨h,hall _ (by omega)⟩
  have hinv:=hinv.perm hinj1 hperm
  have heq: ∀t,env'.get t=(zkW env (zaZ H.nx r.m r.dm r.da r.es)).get t:=fun t=>by
   by_cases ht:t∈dstsOf (zaZ H.nx r.m r.dm r.da r.es)
   ·obtain ⟨q,v,hv⟩:=zcz.1 ht
    have hq:q<ops.size:=by
     have:=(List.getElem?_eq_some_iff.1 hv).1
     have hlen:(zaZ H.nx r.m r.dm r.da r.es).length=3+2*r.es.length:=by
      have: ∀(es:List LitE) (rr:List (Option (Nat×AV))),(zbb es rr).length=2*es.length+rr.length:=fun es rr=>by
       induction es with
       | nil=>simp [zbb]
       | cons e es ih=>simp [zbb,ih];omega
      simp [zaZ,this];omega
     omega
    rw [g1 q t v hv (hall q hq),zng hnd hv]
   ·rw [zdZ ht]
    exact g2 t fun q v hv=>absurd (zcz.2 ⟨q,v,hv⟩) ht
  refine hQ a' w' ⟨zkW env (zaZ H.nx r.m r.dm r.da r.es),H.alloc (.mapu (zki r.es)),_,⟨hE.size,hE.le,fun t ht=> ?_,?_⟩,hinv,⟨zbX hfresh,fun q L e e0=> ?_,(St.extend hi _).keep,(St.extend hi _).nx⟩,h⟩
  ·have:=hE.get t ht
   unfold zaW at this ⊢
   rw [heq t] at this
   exact this
  ·have:=hE.dfr
   unfold zaW at this ⊢
   rw [heq zaP] at this
   exact this
  ·by_cases hq:q=H.nx
   ·omega
   ·rw [zbO _ _ hq,e0] at e;cases e
 ·
  obtain ⟨env',S,hE,g1,g2,g3,g4,g5,g6⟩:=hI
  have hlt:i<listed.size:=by rw [hsz];exact (Array.getElem?_eq_some_iff.1 ho).1
  have hszF:=F.sz
  have hwait: ∀q,zep o q→listed.getD q false=true:=fun q ⟨e,e1,e2,e3⟩=>e3▸hed e e1 e2
  have hmdl:Nat.blt r.m zaP=true:=hdis _ (hltd 0 _ _ v0)
  have cases5:i=0∨(∃q,q<r.es.length∧i=1+2*q)∨(∃q,q<r.es.length∧i=2+2*q)∨i=1+2*r.es.length∨i=2+2*r.es.length:=by
   rcases Nat.eq_zero_or_pos i with h0|h0
   ·exact .inl h0
   ·rcases Nat.mod_two_eq_zero_or_one i with hm|hm
    ·have:i=2+2*(i/2-1):=by omega
     by_cases hq:i/2-1<r.es.length
     ·exact .inr (.inr (.inl ⟨_,hq,this⟩))
     ·exact .inr (.inr (.inr (.inr (by omega))))
    ·have:i=1+2*(i/2):=by omega
     by_cases hq:i/2<r.es.length
     ·exact .inr (.inl ⟨_,hq,this⟩)
     ·exact .inr (.inr (.inr (.inl (by omega))))
  have keepS: ∀q,i≠2+2*q→((listed.setIfInBounds i true).getD (2+2*q) false=true↔listed.getD (2+2*q) false=true):=fun q hq=>by
   rw [getD_set_ne false hq]
  rcases cases5 with rfl|⟨q,hq,rfl⟩|⟨q,hq,rfl⟩|rfl|rfl
  ·
   obtain ⟨o',p1,p2,p3,p4⟩:=F.mkd
   rw [ho] at p1;cases p1
   rw [g3 hun]
   have hS:S= []:=by
    rw [List.eq_nil_iff_forall_not_mem]
    intro q hqS
    obtain ⟨h1,h2⟩:=(g6 q).1 hqS
    obtain ⟨x,hx⟩: ∃x,r.es[q]? =some x:=⟨_,List.getElem?_eq_getElem h1⟩
    obtain ⟨o1,o2,e1,e2,pk⟩:=F.prs q x hx
    obtain ⟨ed,d1,d2,d3⟩:=pk.w0
    have:=hcl _ _ e2 h2 ed d1 d2
    rw [d3,hun] at this
    cases this
   subst hS
   obtain ⟨s1,s2,s3⟩:=LitI.slot (r:=r) hlt hnd (hltd 0 _ _ v0) v0 hE g1 g2 (u:= .map (some wd.heap.size)) ⟨_,hinj1,rfl⟩
   refine zeU (u:= .map (some wd.heap.size)) (w':= { wd with heap:=wd.heap.push (.map #[] 0) }) ho p4 (by simp only [execOp,p2,Instr.makeMap,Option.map_none,Sem.run_bind,run_newObj,Result.andThen_ok,Sem.run_pure]) ?_
   rw [p3]
   refine ⟨_,[],s1,s2,s3,fun h0=> ?_,fun _=> ?_,List.nodup_nil,fun q=> ?_⟩
   ·rw [(zus hlt).2 (.inl rfl)] at h0;cases h0
   ·exact (hiw.alloc (o:= .mapu []) (ob:= .map #[] 0) (c:=0) ⟨rfl,#[],0,[],rfl,.refl _,rfl⟩ (fun v e g cl sh hob=>by cases hob)).1
   ·rw [keepS q (by omega)]
    exact g6 q
  ·
   obtain ⟨x,hx⟩: ∃x,r.es[q]? =some x:=⟨_,List.getElem?_eq_getElem hq⟩
   obtain ⟨o1,o2,e1,e2,pk⟩:=F.prs q x hx
   rw [ho] at e1;cases e1
   obtain ⟨ps,b1,b2⟩:=pk.build
   have hv:=(vq q x hx).1
   obtain ⟨u,hrun,hR⟩:=zhZ (H:=H) (w:=w') hE b1 (v:= .agg x.cs) (b2 env')
   obtain ⟨s1,s2,s3⟩:=LitI.slot (r:=r) hlt hnd (hltd _ _ _ hv) hv hE g1 g2 hR
   refine zeU ho pk.g1 hrun ?_
   rw [pk.dst1]
   refine ⟨_,S,s1,s2,s3,fun h0=>g3 ?_,fun h0=>g4 ?_,g5,fun q'=> ?_⟩
   ·rwa [getD_set_ne false (by omega)] at h0
   ·rwa [getD_set_ne false (by omega)] at h0
   ·rw [keepS q' (by omega)];exact g6 q'
  ·
   obtain ⟨x,hx⟩: ∃x,r.es[q]? =some x:=⟨_,List.getElem?_eq_getElem hq⟩
   obtain ⟨o1,o2,e1,e2,pk⟩:=F.prs q x hx
   rw [ho] at e2;cases e2
   obtain ⟨V,n1,n2⟩:=pk.ins
   have hv:=(vq q x hx).1
   have hL0:=hwait 0 pk.w0
   have hLk:=hwait _ pk.wi
   have hm:R ρ (jset j H.nx ⟨wd.heap.size,0,0,none⟩) (.map H.nx) (a'.eval (.tmp r.m)):=zao hE (znv hmdl (g1 0 _ _ v0 hL0))
   have hkv:R ρ (jset j H.nx ⟨wd.heap.size,0,0,none⟩) (.agg x.cs) (a'.eval (.tmp x.d)):=zao hE (znv (hdis _ (hltd _ _ _ hv)) (g1 _ _ _ hv hLk))
   have hVv:R ρ (jset j H.nx ⟨wd.heap.size,0,0,none⟩) x.v V:=zkR n2
   obtain ⟨L,hL,hmv⟩:=hm
   rw [hinj1] at hL;cases hL
   have hinv:=g4 hL0
   obtain ⟨k1,k2⟩:=F.keys x (List.mem_of_getElem? hx)
   have hqS:q∉S:=fun hh=>by rw [((g6 q).1 hh).2] at hun;cases hun
   have hhits:hits P (H.alloc (.mapu (S.map (zla r.es)))) F.kt (.agg x.cs) (S.map (zla r.es))=some []:=by
    refine zmH fun y hy=> ?_
    obtain ⟨q',hq',rfl⟩:=List.mem_map.1 hy
    obtain ⟨h1,h2⟩:=(g6 q').1 hq'
    obtain ⟨y,hyq⟩: ∃y,r.es[q']? =some y:=⟨_,List.getElem?_eq_getElem h1⟩
    have e:zla r.es q'=⟨.agg y.cs,y.v,0⟩:=by unfold zla;rw [hyq]
    rw [e]
    rcases k2 y (List.mem_of_getElem? hyq) with hd|hne
    ·exfalso
     have h1:=(vq q' y hyq).1
     rw [hd] at h1
     have:=ziv hnd h1 hv
     have:q'=q:=by omega
     exact hqS (this▸hq')
    ·exact (zH4 hi (o:= .mapu (S.map (zla r.es)))).eqA _ _ _ _ _ hne
   obtain ⟨w2,r1,r2⟩:=zto hinv hinj1 F.hu F.hkt F.hke F.hs hkv hVv k1 hhits
   refine zyj (w':=w2) ho pk.g2 ?_ ?_
   ·have hc:a'.eval (.const V)=V:=rfl
    simp only [execOp,n1,hmv,hc,Sem.run_bind,r1,Result.andThen_ok,Sem.run_pure]
   ·rw [pk.dst2]
    have hent:zla r.es q=⟨.agg x.cs,x.v,0⟩:=by unfold zla;rw [hx]
    refine ⟨env',S++ [q],hE,fun i' d' v' hv' hl'=>g1 i' d' v' hv' ?_,fun t ht=>g2 t fun i' v' hv'=> ?_,fun h0=> ?_,fun _=> ?_,?_,fun q'=> ?_⟩
    ·by_cases hii:i'=2+2*q
     ·subst hii;rw [(vq q x hx).2] at hv';cases hv'
     ·rwa [getD_set_ne false (Ne.symm hii)] at hl'
    ·have:=ht i' v' hv'
     by_cases hii:i'=2+2*q
     ·subst hii;rw [(vq q x hx).2] at hv';cases hv'
     ·rwa [getD_set_ne false (Ne.symm hii)] at this
    ·rw [getD_set_ne false (by omega),hL0] at h0;cases h0
    ·rw [List.map_append,List.map_singleton,hent];exact r2
    ·refine List.nodup_append.2 ⟨g5,by simp,fun y hy z hz=> ?_⟩
     rw [List.mem_singleton] at hz
     subst hz
     exact fun e=>hqS (e▸hy)
    ·rw [List.mem_append,List.mem_singleton,g6,zus hlt]
     constructor
     ·rintro (⟨h1,h2⟩|rfl)
      ·exact ⟨h1,.inr h2⟩
      ·exact ⟨hq,.inl rfl⟩
     ·rintro ⟨h1,h2⟩
      rcases h2 with h2|h2
      ·exact .inr (by omega)
      ·exact .inl ⟨h1,h2⟩
  ·
   obtain ⟨o',p1,p2,p3,p4,p5⟩:=F.mv
   rw [ho] at p1;cases p1
   have hL0:=hwait 0 (p5 0 (by omega))
   obtain ⟨u,hrun,hR⟩:=zec (P:=P) (H:=H) (w:=w') hE p2 (v:= .map H.nx) (znv hmdl (g1 0 _ _ v0 hL0))
   obtain ⟨s1,s2,s3⟩:=LitI.slot (r:=r) hlt hnd (hltd _ _ _ vmv) vmv hE g1 g2 hR
   refine zeU ho p4 hrun ?_
   rw [p3]
   refine ⟨_,S,s1,s2,s3,fun h0=>g3 ?_,fun h0=>g4 ?_,g5,fun q'=> ?_⟩
   ·rwa [getD_set_ne false (by omega)] at h0
   ·rwa [getD_set_ne false (by omega)] at h0
   ·rw [keepS q' (by omega)];exact g6 q'
  ·
   obtain ⟨o',p1,p2,p3,p4,p5⟩:=F.asn
   rw [ho] at p1;cases p1
   have hLm:=hwait _ p5
   obtain ⟨u,hrun,hR⟩:=zec (P:=P) (H:=H) (w:=w') hE p2 (v:= .map H.nx) (znv (hdis _ (hltd _ _ _ vmv)) (g1 _ _ _ vmv hLm))
   obtain ⟨s1,s2,s3⟩:=LitI.slot (r:=r) hlt hnd (hltd _ _ _ vas) vas hE g1 g2 hR
   refine zeU ho p4 hrun ?_
   rw [p3]
   refine ⟨_,S,s1,s2,s3,fun h0=>g3 ?_,fun h0=>g4 ?_,g5,fun q'=> ?_⟩
   ·rwa [getD_set_ne false (by omega)] at h0
   ·rwa [getD_set_ne false (by omega)] at h0
   ·by_cases hqn:2+2*q'=2+2*r.es.length
    ·rw [g6]
     constructor
     ·intro hh;omega
     ·intro hh;omega
    ·rw [keepS q' (Ne.symm hqn)];exact g6 q'
 ·
  refine ⟨env,[],he.mono (zbX hfresh),(fun i d v _ hl=>by rw [hfalse] at hl;cases hl),fun _ _=>rfl,fun _=>rfl,(fun hl=>by rw [hfalse] at hl;cases hl),List.nodup_nil,fun q=> ?_⟩
  rw [hfalse]
  simp
end
end Go.Dw
namespace Go.Dw
def GV (ρ:Val):G→Bool→Prop
 | .yes,g=>g=true
 | .no,g=>g=false
 | .test _ b want,g=>(b.den ρ==want)=g
 | .none,_=>False
def ztJ (N:Nat) (env:T AV) (o:Oper) (v:AV):Prop:= ∀d,o.dst=some d→d<N∧env.get d=some v
section
variable {P:Program} {ρ:Val} {w0:Cx} {ops:Array Oper} {N:Nat} {env0:T AV} {H0:Heap} {j0:J}
variable {D listed:Nat→Prop} {envS env env':T AV} {j j':J} {H H':Heap} {w w':World} {a:Act} {nm nm':Nat→Option Nat} {rec:Task→Ob} {n:Nat} {Q:Exit→Act→World→Prop}
theorem zHS {x:Operand} (h: ∀t,x= .tmp t→env.get t=env'.get t):opd env x=opd env' x:=by
 cases x with
 | tmp t=>simp only [opd];rw [h t rfl]
 | _=>rfl
theorem zhb {o:Oper} (h: ∀t∈looks ops o,env.get t=env'.get t): ∀x∈o.op.operands,opd env x=opd env' x:=fun x hx=>zHS fun t e=>h t (by
 subst e
 unfold looks
 exact List.mem_append_left _ (List.mem_filterMap.2 ⟨.tmp t,by simpa using hx,rfl⟩))
theorem zeJ {o:Oper} (h: ∀t∈looks ops o,env.get t=env'.get t):zcJ ops env o=zcJ ops env' o:=by
 unfold zcJ
 cases hg:o.guard with
 | none=>rfl
 | some gw=>
  obtain ⟨i,want⟩:=gw
  simp only
  cases hi:ops[i]? with
  | none=>rfl
  | some oj=>
   simp only
   cases hd:oj.dst with
   | none=>rfl
   | some t=>
    simp only
    rw [h t (by unfold looks;refine List.mem_append_right _ ?_;simp [hg,hi,hd])]
theorem zrh (he:ER ρ j N env a) {o:Oper} {g:Bool} (h:GV ρ (zcJ ops env o) g):Region.wanted o (yielded ops a.tmps)=g:=by
 have hs:=zkt he ops o
 cases hG:zcJ ops env o with
 | yes=>rw [hG] at h hs;have h:g=true:=h;rw [h];exact hs
 | no=>rw [hG] at h hs;have h:g=false:=h;rw [h];exact hs
 | none=>rw [hG] at h;exact h.elim
 | test t b want=>
  rw [hG] at h hs
  have hb:=(ziZ he hs).2
  have h:(b.den ρ==want)=g:=h
  unfold zcJ at hG
  split at hG
  ·cases hG
  rename_i i want' hg
  split at hG
  ·cases hG
  rename_i oj hi
  split at hG
  ·cases hG
  rename_i t' hd
  split at hG
  ·cases hG
  ·split at hG<;>cases hG
  ·split at hG<;>cases hG
  ·cases hG
   unfold Region.wanted
   rw [hg]
   simp only [yielded,hi,Option.bind_some,hd,hb]
   rw [←h]
   cases b.den ρ<;>cases want<;>rfl
  ·cases hG
  ·cases hG
  ·cases hG
def Told (ρ:Val) (l:List (SB×Bool)):Prop:= ∀c∈l,c.1.den ρ=c.2
theorem zdt {ρ:Val} {c:SB}: ∀ {l:List (SB×Bool)} {b:Bool},Told ρ l→zf1 c l=some b→c.den ρ=b
 | [], _,_,h=>by cases h
 | p::l,b,ht,h=>by
  unfold zf1 at h
  split at h
  ·rename_i he
   cases h
   rw [SB.eqv_eq he]
   exact ht p (by simp)
  ·exact zdt (fun c hc=>ht c (by simp [hc])) h
theorem ziR {ρ:Val} {l:List (SB×Bool)} {c:SB} {b:Bool} (h:Told ρ l) (hc:c.den ρ=b):Told ρ ((c,b)::l):=fun x hx=>by
 rcases List.mem_cons.1 hx with rfl|hx
 ·exact hc
 ·exact h x hx
def zIS (ρ:Val) (z:AV):Prop:= ∀j,R ρ j z undef
theorem zKl {ρ:Val} {G:G} {a b:Bool} (h:GV ρ G a) (k:GV ρ G b):a=b:=by
 cases G with
 | yes=>exact Eq.trans (show a=true from h) (show b=true from k).symm
 | no=>exact Eq.trans (show a=false from h) (show b=false from k).symm
 | test t c want=>exact Eq.trans (show (c.den ρ==want)=a from h).symm k
 | none=>exact h.elim
theorem zri {fs:List (SB×Bool)} (hf:Told ρ fs) {o:Oper}:(zgM fs ops env o= .yes→GV ρ (zcJ ops env o) true)∧(zgM fs ops env o= .no→GV ρ (zcJ ops env o) false∧zIS ρ (zHV ops env o))∧
  (∀ t b want,zgM fs ops env o= .test t b want→zcJ ops env o= .test t b want):=by
 unfold zgM zHV
 cases hG:zcJ ops env o with
 | yes=>exact ⟨fun _=>rfl,fun h=>by (simp at h),fun _ _ _ h=>by (simp at h)⟩
 | no=>exact ⟨fun h=>by (simp at h),fun _=>⟨rfl,fun j=>zcQ⟩,fun _ _ _ h=>by (simp at h)⟩
 | none=>exact ⟨fun h=>by (simp at h),fun h=>by (simp at h),fun _ _ _ h=>by (simp at h)⟩
 | test t b want=>
  simp only
  split
  ·rename_i ht
   have hb:=zdt hf ht
   cases want with
   | true=>exact ⟨fun _=>by (show (b.den ρ==true)=true;rw [hb];rfl),fun h=>by (simp at h),fun _ _ _ h=>by (simp at h)⟩
   | false=>exact ⟨fun h=>by (simp at h),fun _=>⟨by (show (b.den ρ==false)=false;rw [hb];rfl),fun j=>(show undef=undef∧b.den ρ= !_ from ⟨rfl,hb⟩)⟩,fun _ _ _ h=>by (simp at h)⟩
  ·rename_i ht
   have hb:=zdt hf ht
   cases want with
   | true=>exact ⟨fun h=>by (simp at h),fun _=>⟨by (show (b.den ρ==true)=false;rw [hb];rfl),fun j=>(show undef=undef∧b.den ρ= !_ from ⟨rfl,hb⟩)⟩,fun _ _ _ h=>by (simp at h)⟩
   | false=>exact ⟨fun _=>by (show (b.den ρ==false)=true;rw [hb];rfl),fun h=>by (simp at h),fun _ _ _ h=>by (simp at h)⟩
  ·exact ⟨fun h=>by (simp at h),fun h=>by (simp at h),fun _ _ _ h=>h⟩
theorem zjC {o:Oper} {k:T AV→Heap→Ob} {rest:List zkS} {fs:List (SB×Bool)} (hf:Told ρ fs) (h:Ob.den ρ (za9 P rec ops N k (.run o::rest) fs env H)):
  ∃ g z fs',GV ρ (zcJ ops env o) g∧(g=false→zIS ρ z)∧Told ρ fs'∧Ob.den ρ (zp1 P rec o N (za9 P rec ops N k rest fs') env H g z):=by
 obtain ⟨e1,e2,e3⟩:=zri (ops:=ops) (env:=env) hf (o:=o)
 unfold za9 at h
 cases hG:zgM fs ops env o with
 | yes=>rw [hG] at h;exact ⟨true,_,fs,e1 hG,(fun hh=>by cases hh),hf,h⟩
 | no=>rw [hG] at h;exact ⟨false,_,fs,(e2 hG).1,fun _=>(e2 hG).2,hf,h⟩
 | none=>rw [hG] at h;exact h.elim
 | test t b want=>
  rw [hG] at h
  rw [e3 _ _ _ hG]
  obtain ⟨h1,h2⟩:=h
  cases hb:b.den ρ with
  | true=>exact ⟨want,.nun b want,_,by show (b.den ρ==want)=want;rw [hb];cases want<;>rfl,fun hw j=>(show undef=undef∧b.den ρ= !want from ⟨rfl,by rw [hb,hw];rfl⟩),ziR hf hb,h1 hb⟩
  | false=>
   cases want with
   | true=>exact ⟨false,.nun b true,_,by show (b.den ρ==true)=false;rw [hb];rfl,fun _ j=>(show undef=undef∧b.den ρ= !true from ⟨rfl,by rw [hb];rfl⟩),ziR hf hb,h2 hb⟩
   | false=>exact ⟨true,_,_,by show (b.den ρ==false)=true;rw [hb];rfl,(fun hh=>by cases hh),ziR hf hb,h2 hb⟩
theorem zsF {os:List Oper} {k:T AV→Heap→Ob} {rest:List zkS} {fs:List (SB×Bool)} (h:Ob.den ρ (za9 P rec ops N k (.chk os::rest) fs env H)):
  chkA P fs ops env H os=true∧Ob.den ρ (za9 P rec ops N k rest fs env H):=by
 unfold za9 at h
 split at h
 ·rename_i hc;exact ⟨hc,h⟩
 ·exact h.elim
theorem zik {dst:Option Tmp} {v:AV} {kk:T AV→Ob} (h:Ob.den ρ (putA dst N env v kk)):
  ∃ env',Ob.den ρ (kk env')∧(∀d,dst=some d→d<N∧env'.get d=some v)∧(∀t,dst≠some t→env'.get t=env.get t):=by
 unfold putA at h
 split at h
 ·exact ⟨env,h,⟨fun d e=>(by cases e),fun _ _=>rfl⟩⟩
 ·rename_i d
  split at h
  ·rename_i hb
   rw [Nat.blt_eq] at hb
   refine ⟨_,h,fun d' e=> ?_,fun t ht=> ?_⟩
   ·cases e;exact ⟨hb,by rw [T.get_set,if_pos rfl]⟩
   ·rw [T.get_set,if_neg (fun e=>ht (by rw [e]))]
  ·exact h.elim
theorem zB6 {fs:List (SB×Bool)}: ∀ {os:List Oper},chkA P fs ops env H os=true→ ∀o∈os,zgM fs ops env o= .no∨(zgM fs ops env o= .yes∧ ∃v,light P o.op env H=some v∧ ∀d,o.dst=some d→env.get d=some v)
 | [], _,o,ho=>by cases ho
 | q::os,h,o,ho=>by
  unfold chkA at h
  have hrest:chkA P fs ops env H os=true:=by
   split at h
   ·exact h
   ·split at h
    ·split at h
     ·split at h
      ·exact h
      ·cases h
     ·cases h
    ·exact h
    ·cases h
   ·cases h
  rcases List.mem_cons.1 ho with rfl|ho
  ·split at h
   ·rename_i hg;exact .inl hg
   ·rename_i hg
    refine .inr ⟨hg,?_⟩
    split at h
    ·rename_i v d hl hd
     split at h
     ·rename_i u hu
      split at h
      ·rename_i hb
       refine ⟨v,hl,fun d' e=> ?_⟩
       rw [hd] at e;cases e
       rw [hu,AV.beq_eq hb]
      ·cases h
     ·cases h
    ·rename_i v hl hd
     exact ⟨v,hl,fun d' e=>by rw [hd] at e;cases e⟩
    ·cases h
   ·cases h
  ·exact zB6 hrest o ho
theorem ER.putS (he:ER ρ j N envS a) {o:Oper} {v:AV} {u:Value} (hR:R ρ j v u) (hd: ∀d,o.dst=some d→d<N):
  ∃ envS',ER ρ j N envS' (a.put o.dst u)∧(∀d,o.dst=some d→envS'.get d=some v)∧(∀t,o.dst≠some t→envS'.get t=envS.get t):=by
 cases hdst:o.dst with
 | none=>exact ⟨envS,he,⟨fun d e=>(by cases e),fun _ _=>rfl⟩⟩
 | some d=>
  refine ⟨envS.set d v,he.put (hd d hdst) hR,fun d' e=> ?_,fun t ht=> ?_⟩
  ·cases e;rw [T.get_set,if_pos rfl]
  ·rw [T.get_set,if_neg (fun e=>ht (by rw [e]))]
def Done (P:Program) (ρ:Val) (N:Nat) (H0:Heap) (env envR:T AV) (H:Heap) (j:J) (nm:Option Nat) (o:Oper) (g:Bool):Prop:=
 (g=true∧zhs o.op= .light∧ ∃v,light P o.op envR H=some v∧ztJ N env o v)∨
 (g=true∧zhs o.op= .alloc∧ ∃v ob nx,nm=some nx∧zdj P o.op envR nx=some (v,ob)∧H.m.get nx=some ob∧j nx=none∧H0.nx≤nx∧ztJ N env o v)∨
 (g=false∧ ∃z,zIS ρ z∧ztJ N env o z)
def zCA (ops:Array Oper) (env0 env envR:T AV) (i:Nat) (o:Oper):Prop:=
 ∀ t∈looks ops o,(∀q oq,(mkOf ops i).testBit q=true→ops[q]? =some oq→oq.dst=some t→envR.get t=env.get t)∧
  ((∀ q oq,(mkOf ops i).testBit q=true→ops[q]? =some oq→oq.dst≠some t)→envR.get t=env0.get t)
def zKj (P:Program) (ρ:Val) (ops:Array Oper) (N:Nat) (env0:T AV) (H0:Heap) (env:T AV) (H:Heap) (j:J) (nm:Option Nat) (i:Nat) (o:Oper):Prop:=
 ∃ envR g,GV ρ (zcJ ops envR o) g∧zCA ops env0 env envR i o∧Done P ρ N H0 env envR H j nm o g
theorem zrV (op:Op) (env:T AV) (nx:Nat) (v:AV) (k:Nat):zdj P op env nx≠some (v,.gs k):=fun h=>by
 cases op<;>simp only [zdj,aNo] at h<;>try cases h
 case alloc=>unfold zrZ zbq at h;split at h<;>cases h
 case box=>unfold aBox zbq at h;split at h<;>cases h
 case buildSlice=>unfold zcB zbq at h;(repeat' split at h)<;>cases h
 case makeMap=>unfold zft at h;(repeat' split at h)<;>cases h
 case makeSlice=>unfold zcZ at h;(repeat' split at h)<;>cases h
structure CI (P:Program) (ρ:Val) (w0:Cx) (ops:Array Oper) (N:Nat) (env0:T AV) (H0:Heap) (j0:J) (D listed:Nat→Prop) (envS env:T AV) (j:J) (H:Heap) (w:World) (nm:Nat→Option Nat):Prop where
 inv:Inv ρ w0 j H w
 st:St j0 H0 j H
 sub: ∀i,listed i→D i
 e0: ∀t,(∀i o,D i→ops[i]? =some o→o.dst≠some t)→env.get t=env0.get t
 s0: ∀t,(∀i o,listed i→ops[i]? =some o→o.dst≠some t)→envS.get t=env0.get t
 s1: ∀t i o,listed i→ops[i]? =some o→o.dst=some t→envS.get t=env.get t
 recd: ∀i o,D i→ ¬listed i→ops[i]? =some o→zKj P ρ ops N env0 H0 env H j (nm i) i o
 bnd: ∀i nx,nm i=some nx→nx<H.nx
 inj: ∀i i' nx,nm i=some nx→nm i'=some nx→i=i'
theorem CI.congr {D':Nat→Prop} (h: ∀i,D i↔D' i) (ci:CI P ρ w0 ops N env0 H0 j0 D listed envS env j H w nm):CI P ρ w0 ops N env0 H0 j0 D' listed envS env j H w nm:=by
 have e:D=D':=funext fun i=>propext (h i)
 rw [←e];exact ci
theorem CI.put (pf:PF ops) (ci:CI P ρ w0 ops N env0 H0 j0 D listed envS env j H w nm) {p:Nat} {o:Oper} (ho:ops[p]? =some o) (hp: ¬D p)
  (hcl: ∀i x,D i→(mkOf ops i).testBit x=true→D x) (hinv:Inv ρ w0 j H' w) (hst:St j0 H0 j H') (hext:Ext H H') (hnx:H.nx≤H'.nx)
  (henv: ∀t,o.dst≠some t→env'.get t=env.get t) (hnm: ∀i,i≠p→nm' i=nm i) (hbnd: ∀i nx,nm' i=some nx→nx<H'.nx) (hinj: ∀i i' nx,nm' i=some nx→nm' i'=some nx→i=i')
  (hrec:zCA ops env0 env' env p o→zKj P ρ ops N env0 H0 env' H' j (nm' p) p o) (hm: ∀x,(mkOf ops p).testBit x=true→D x):
  CI P ρ w0 ops N env0 H0 j0 (fun x=>D x∨x=p) listed envS env' j H' w nm':=by
 have hne: ∀i,D i→i≠p:=fun i hi e=>hp (e▸hi)
 have hkeep: ∀i oi t,D i→ops[i]? =some oi→oi.dst=some t→env'.get t=env.get t:=fun i oi t hi hoi hd=>
  henv t (pf.dsts i p oi o t (hne i hi) hoi ho hd)
 refine ⟨hinv,hst,fun i hi=> .inl (ci.sub i hi),fun t ht=> ?_,ci.s0,fun t i oi hi hoi hd=> ?_,fun i oi hi hl hoi=> ?_,hbnd,hinj⟩
 ·rw [henv t (ht p o (.inr rfl) ho)]
  exact ci.e0 t fun i oi hi hoi=>ht i oi (.inl hi) hoi
 ·rw [ci.s1 t i oi hi hoi hd,hkeep i oi t (ci.sub i hi) hoi hd]
 ·by_cases hip:i=p
  ·subst hip
   rw [ho] at hoi;cases hoi
   refine hrec fun t ht=>⟨fun q oq hq hoq hd=>(hkeep q oq t (hm q hq) hoq hd).symm,fun hno=>ci.e0 t fun q oq hq hoq hd=> ?_⟩
   rcases pf.reads i q o oq t ho hoq hd ht with h|h
   ·exact hno q oq h hoq hd
   ·exact hp (hcl q i hq h)
  ·have hDi:D i:=hi.resolve_right hip
   obtain ⟨envR,g,h1,h2,h3⟩:=ci.recd i oi hDi hl hoi
   have hdst: ∀v,ztJ N env oi v→ztJ N env' oi v:=fun v hv d hd=>⟨(hv d hd).1,by rw [hkeep i oi d hDi hoi hd];exact (hv d hd).2⟩
   refine ⟨envR,g,h1,fun t ht=>⟨fun q oq hq hoq hd=> ?_,(h2 t ht).2⟩,?_⟩
   ·rw [(h2 t ht).1 q oq hq hoq hd,hkeep q oq t (hcl i q hDi hq) hoq hd]
   ·rw [hnm i hip]
    rcases h3 with ⟨g1,g2,v,g3,g4⟩|⟨g1,g2,v,ob,nx,g3,g4,g5,g6,g7,g8⟩|⟨g1,g2⟩
    ·exact .inl ⟨g1,g2,v,zxQ hext g3,hdst v g4⟩
    ·exact .inr (.inl ⟨g1,g2,v,ob,nx,g3,g4,hext.m _ _ g5,g6,g7,hdst v g8⟩)
    ·exact (.inr (.inr ⟨g1,g2.elim fun z hz=>⟨z,hz.1,hdst _ hz.2⟩⟩))
theorem zBJ {o:Obj} (hi:Inv ρ w0 j H w):Ext H (H.alloc o):=by
 rw [Heap.alloc_eq]
 refine ⟨fun n o' h=> ?_,rfl⟩
 have:=hi.used n o' h
 show (H.m.set H.nx o).get n=_
 rw [T.get_set,if_neg (by omega)]
 exact h
theorem zBi {o:Oper} (h:zhs o.op= .light):zkr o=true:=by unfold zkr;rw [h]
theorem zBW {o:Oper} (h:zbr o=true) (hd:zks o=false):zhs o.op= .heavy:=by
 unfold zbr at h;unfold zks at hd
 cases hc:zhs o.op<;>rw [hc] at h hd<;>first|rfl|exact absurd hd Bool.noConfusion|exact absurd h Bool.noConfusion
theorem zBV {o:Oper} (h:zbr o=false):zhs o.op= .light∨zhs o.op= .alloc:=by
 unfold zbr at h
 cases hc:zhs o.op<;>rw [hc] at h<;>first|exact .inl rfl|exact .inr rfl|exact absurd h (by simp)
theorem zrU {op:Op} {nx:Nat} {v:AV} {ob:Obj} (h:zdj P op env nx=some (v,ob)): ∀v' e g t sh ow,ob≠ .cells v' e g (some t) sh ow:=by
 intro v' e g t sh ow hob
 subst hob
 cases op<;>simp only [zdj,aNo] at h<;>try (cases h;done)
 case alloc t'=>unfold zrZ zbq at h;split at h<;>cases h
 case box t' x=>unfold aBox zbq at h;split at h<;>cases h
 case buildSlice t' len parts=>
  unfold zcB zbq at h
  split at h
  ·split at h
   ·split at h
    ·split at h<;>cases h
    ·cases h
   ·cases h
  ·cases h
 case makeMap t' r=>
  unfold zft at h
  split at h
  ·cases h
  ·split at h<;>cases h
 case makeSlice t' l c=>
  unfold zcZ at h
  split at h
  ·split at h
   ·split at h
    ·split at h<;>cases h
    ·cases h
   ·cases h
  ·cases h
theorem CI.cstep (pf:PF ops) (ci:CI P ρ w0 ops N env0 H0 j0 D listed envS env j H w nm) {p:Nat} {o:Oper} (ho:ops[p]? =some o) (hv:zbr o=false) (hp: ¬D p)
  (hcl: ∀i x,D i→(mkOf ops i).testBit x=true→D x) (hm: ∀x,(mkOf ops p).testBit x=true→D x) {k:T AV→Heap→Ob} {rest:List zkS}
  {fs:List (SB×Bool)} (hf:Told ρ fs) (h:Ob.den ρ (za9 P rec ops N k (.run o::rest) fs env H)):
  ∃ env' H' nm' fs',CI P ρ w0 ops N env0 H0 j0 (fun x=>D x∨x=p) listed envS env' j H' w nm'∧Told ρ fs'∧Ob.den ρ (za9 P rec ops N k rest fs' env' H'):=by
 obtain ⟨g,z,fs',hg,hz,hf',hd⟩:=zjC hf h
 cases g with
 | false=>
  obtain ⟨env',h1,h2,h3⟩:=zik (kk:=fun env'=>za9 P rec ops N k rest fs' env' H) hd
  exact ⟨env',H,nm,fs',ci.put pf ho hp hcl ci.inv ci.st (Ext.refl H) (Nat.le_refl _) h3 (fun _ _=>rfl) ci.bnd ci.inj (fun hl=>⟨env,false,hg,hl,.inr (.inr ⟨rfl,z,hz rfl,h2⟩)⟩) hm,hf',h1⟩
 | true=>
  have hd:Ob.den ρ (doOp P rec o env H fun env v H=>putA o.dst N env v fun env'=>za9 P rec ops N k rest fs' env' H):=hd
  unfold doOp at hd
  rcases zBV hv with hc|hc
  ·rw [hc] at hd
   have hd:Ob.den ρ (okL o H (fun v H=>putA o.dst N env v fun env'=>za9 P rec ops N k rest fs' env' H) (light P o.op env H)):=hd
   cases hl:light P o.op env H with
   | none=>rw [hl] at hd;exact hd.elim
   | some v=>
    rw [hl] at hd
    obtain ⟨env',h1,h2,h3⟩:=zik (kk:=fun env'=>za9 P rec ops N k rest fs' env' H) hd
    exact ⟨env',H,nm,fs',ci.put pf ho hp hcl ci.inv ci.st (Ext.refl H) (Nat.le_refl _) h3 (fun _ _=>rfl) ci.bnd ci.inj (fun hlk=>⟨env,true,hg,hlk,.inl ⟨rfl,hc,v,hl,h2⟩⟩) hm,hf',h1⟩
  ·rw [hc] at hd
   have hd:Ob.den ρ (okA o H (fun v H=>putA o.dst N env v fun env'=>za9 P rec ops N k rest fs' env' H) (zdj P o.op env H.nx)):=hd
   cases hl:zdj P o.op env H.nx with
   | none=>rw [hl] at hd;exact hd.elim
   | some q=>
    obtain ⟨v,ob⟩:=q
    rw [hl] at hd
    obtain ⟨env',h1,h2,h3⟩:=zik (kk:=fun env'=>za9 P rec ops N k rest fs' env' (H.alloc ob)) hd
    have hnx:(H.alloc ob).nx=H.nx+1:=by rw [Heap.alloc_eq]
    have hinv:Inv ρ w0 j (H.alloc ob) w:=ci.inv.extend ob (fun v' e g t sh ow hob=>absurd hob (zrU hl v' e g t sh ow))
    refine ⟨env',H.alloc ob,fun i=>if i=p then some H.nx else nm i,fs',ci.put pf ho hp hcl hinv (ci.st.trans (St.extend ci.inv ob)) (zBJ ci.inv) (by omega) h3 (fun i hi=>if_neg hi) (fun i nx hi=> ?_) (fun i i' nx h1 h2=> ?_) (fun hlk=>⟨env,true,hg,hlk,.inr (.inl ⟨rfl,hc,v,ob,H.nx,if_pos rfl,hl,?_,ci.inv.fresh,ci.st.nx,h2⟩)⟩) hm,hf',h1⟩
    ·by_cases hip:i=p
     ·rw [if_pos hip] at hi;cases hi;omega
     ·rw [if_neg hip] at hi;have:=ci.bnd i nx hi;omega
    ·by_cases hip:i=p<;>by_cases hip':i'=p
     ·rw [hip,hip']
     ·rw [if_pos hip] at h1;rw [if_neg hip'] at h2;cases h1;exact absurd (ci.bnd i' _ h2) (Nat.lt_irrefl _)
     ·rw [if_neg hip] at h1;rw [if_pos hip'] at h2;cases h2;exact absurd (ci.bnd i _ h1) (Nat.lt_irrefl _)
     ·rw [if_neg hip] at h1;rw [if_neg hip'] at h2;exact ci.inj i i' nx h1 h2
    ·rw [Heap.alloc_eq]
     show (H.m.set H.nx ob).get H.nx=_
     rw [T.get_set,if_pos rfl]
theorem zf2 (pf:PF ops) {k:T AV→Heap→Ob} {rest:List zkS} {s:Nat}: ∀(l:List Oper) (ms:List Nat) (n:Nat) (fs:List (SB×Bool)) (env:T AV) (H:Heap) (nm:Nat→Option Nat),Told ρ fs→l=ops.toList.drop n→ms=(zd9 ops.toList).drop n→
  CI P ρ w0 ops N env0 H0 j0 (DD ops s n) listed envS env j H w nm→Ob.den ρ (za9 P rec ops N k (zi7 s (posOf (hsOf ops) l ms n)++rest) fs env H)→
  ∃ env' H' nm' fs',CI P ρ w0 ops N env0 H0 j0 (DD ops s ops.size) listed envS env' j H' w nm'∧Told ρ fs'∧Ob.den ρ (za9 P rec ops N k rest fs' env' H')
 | [], ms,n,fs,env,H,nm,hf,hl,hms,ci,h=>by
  have hn:ops.size≤n:=by have:=hl.symm;rw [List.drop_eq_nil_iff] at this;simpa using this
  have e:posOf (hsOf ops) [] ms n= []:=by simp [posOf]
  rw [e] at h
  exact ⟨env,H,nm,fs,ci.congr (zIW hn),hf,h⟩
 | o::l,ms,n,fs,env,H,nm,hf,hl,hms,ci,h=>by
  have ho:ops[n]? =some o:=by
   have:=congrArg (·[0]?) hl
   simp only [List.getElem?_cons_zero,List.getElem?_drop,Nat.add_zero] at this
   simpa using this.symm
  have hlt:=(Array.getElem?_eq_some_iff.1 ho).1
  have hl':l=ops.toList.drop (n+1):=by
   have:=congrArg List.tail hl
   simpa using this
  cases hmse:ms with
  | nil=>
   rw [hmse] at hms
   have:=hms.symm
   rw [List.drop_eq_nil_iff,zcI] at this
   simp at this;omega
  | cons m ms'=>
   rw [hmse] at hms h
   have hm:m=mkOf ops n:=by
    have:=congrArg (·[0]?) hms
    simp only [List.getElem?_cons_zero,List.getElem?_drop,Nat.add_zero] at this
    unfold mkOf
    rw [List.getD_eq_getElem?_getD,←this];rfl
   have hms':ms'=(zd9 ops.toList).drop (n+1):=by
    have:=congrArg List.tail hms
    simpa using this
   unfold posOf at h
   unfold zi7 at h
   have hst:zct m (hsOf ops) 0 0=stOf ops n:=by rw [hm];rfl
   simp only [hst] at h
   split at h
   ·rename_i hv hs
    have hs:=Nat.eq_of_beq_eq_true hs
    have hnD: ¬DD ops s n n:=by
     rintro ⟨o',h1,h2⟩
     rw [ho] at h1;cases h1
     rcases h2 with ⟨_,h2⟩|⟨h2,_⟩
     ·omega
     ·rw [hv] at h2;cases h2
    obtain ⟨env',H',nm',fs',h1,hf',h2⟩:=ci.cstep pf ho hv hnD (fun i x hi hx=>zCB pf.edges hi hx) (fun x hx=>zIX pf.edges hs hx) hf h
    exact zf2 pf l ms' (n+1) fs' env' H' nm' hf' hl' hms' (h1.congr (zIU ho hv hs)) h2
   ·rename_i hne
    refine zf2 pf l ms' (n+1) fs env H nm hf hl' hms' (ci.congr (zIV ho ?_)) h
    cases hv:zbr o with
    | true=>exact .inl rfl
    | false=>exact .inr fun e=>hne hv (by rw [e];exact Nat.beq_refl s)
theorem CI.list (pf:PF ops) (ci:CI P ρ w0 ops N env0 H0 j0 D listed envS env j H w nm) {i:Nat} {o:Oper} {envS':T AV} (ho:ops[i]? =some o) (hD:D i)
  (hinv:Inv ρ w0 j' H w') (hst:St j0 H0 j' H) (hd: ∀d,o.dst=some d→envS'.get d=env.get d) (hn: ∀t,o.dst≠some t→envS'.get t=envS.get t)
  (hj: ∀i' nx,i'≠i→nm i'=some nx→j nx=none→j' nx=none):
  CI P ρ w0 ops N env0 H0 j0 D (fun x=>listed x∨x=i) envS' env j' H w' nm:=by
 refine ⟨hinv,hst,fun x hx=>hx.elim (ci.sub x) fun e=>e▸hD,ci.e0,fun t ht=> ?_,fun t x ox hx hox hdx=> ?_,fun x ox hx hl hox=> ?_,ci.bnd,ci.inj⟩
 ·rw [hn t (ht i o (.inr rfl) ho)]
  exact ci.s0 t fun x ox hx hox=>ht x ox (.inl hx) hox
 ·by_cases hxi:x=i
  ·subst hxi
   rw [ho] at hox;cases hox
   exact hd t hdx
  ·rw [hn t (pf.dsts x i ox o t hxi hox ho hdx)]
   exact ci.s1 t x ox (hx.resolve_right hxi) hox hdx
 ·have hxi:x≠i:=fun e=>hl (.inr e)
  obtain ⟨envR,g,h1,h2,h3⟩:=ci.recd x ox hx (fun h=>hl (.inl h)) hox
  refine ⟨envR,g,h1,h2,?_⟩
  rcases h3 with h3|⟨g1,g2,v,ob,nx,g3,g4,g5,g6,g7,g8⟩|h3
  ·exact .inl h3
  ·exact .inr (.inl ⟨g1,g2,v,ob,nx,g3,g4,g5,hj x nx hxi g3 g6,g7,g8⟩)
  ·exact .inr (.inr h3)
theorem CI.late (pf:PF ops) (ci:CI P ρ w0 ops N env0 H0 j0 D listed envS env j H w nm) (he:ER ρ j N envS a) {i:Nat} {o:Oper} (ho:ops[i]? =some o) (hD:D i) (hl: ¬listed i)
  (hm: ∀x,(mkOf ops i).testBit x=true→listed x) (hlc: ∀q x,listed q→(mkOf ops q).testBit x=true→listed x) {K:Act→World→Prop}
  (hK: ∀envS' j' a' w',CI P ρ w0 ops N env0 H0 j0 D (fun x=>listed x∨x=i) envS' env j' H w' nm→ER ρ j' N envS' a'→K a' w'):wpOp P ops Q i K a w:=by
 obtain ⟨envR,g,hg,hlook,hdone⟩:=ci.recd i o hD hl ho
 have hag: ∀t∈looks ops o,envS.get t=envR.get t:=fun t ht=>by
  by_cases hw: ∃q oq,(mkOf ops i).testBit q=true∧ops[q]? =some oq∧oq.dst=some t
  ·obtain ⟨q,oq,h1,h2,h3⟩:=hw
   rw [ci.s1 t q oq (hm q h1) h2 h3,(hlook t ht).1 q oq h1 h2 h3]
  ·rw [(hlook t ht).2 (fun q oq h1 h2 h3=>hw ⟨q,oq,h1,h2,h3⟩)]
   refine ci.s0 t fun q oq h1 h2 h3=> ?_
   rcases pf.reads i q o oq t ho h2 h3 ht with h4|h4
   ·exact hw ⟨q,oq,h4,h2,h3⟩
   ·exact hl (hlc q i h1 h4)
 rw [←zeJ hag] at hg
 have hwant:=zrh he hg
 have hops:=zhb hag
 unfold wpOp
 simp only [ho]
 rw [hwant]
 rcases hdone with ⟨rfl,hc,v,hv,hd⟩|⟨rfl,hc,v,ob,nx,hnm,hv,hH,hj,hnx,hd⟩|⟨rfl,hd⟩
 ·rw [if_pos rfl]
  left
  rw [←zkk hops] at hv
  obtain ⟨u,h1,h2⟩:=zfT ci.inv he hv
  unfold Oper.wp
  rw [h1,Oper.upon_value]
  obtain ⟨envS',e1,e2,e3⟩:=he.putS h2 (fun d hh=>(hd d hh).1)
  exact hK envS' j _ _ (ci.list pf ho hD ci.inv ci.st (fun d hh=>by rw [e2 d hh,(hd d hh).2]) e3 (fun _ _ _ _ h=>h)) e1
 ·rw [if_pos rfl]
  left
  rw [←zrW hops] at hv
  obtain ⟨⟨u,obj,h1,h2,h3⟩,h4⟩:=zh4 (P:=P) (w:=w) he hv
  unfold Oper.wp
  rw [h1,Oper.upon_value]
  have hinv:=ci.inv.adopt hH hj h2 (fun v e g cl sh hob=>by subst hob;exact .inl h4)
  have hst:St j0 H0 (jset j nx ⟨w.heap.size,0,0,none⟩) H:=by
   refine ⟨ci.st.sub.trans (zbX hj),fun m L e e0=> ?_,ci.st.keep,ci.st.nx⟩
   by_cases hm:m=nx
   ·omega
   ·rw [zbO _ _ hm] at e;exact ci.st.fresh m L e e0
  obtain ⟨envS',e1,e2,e3⟩:=(he.mono (zbX hj)).putS h3 (fun d hh=>(hd d hh).1)
  refine hK envS' _ _ _ (ci.list pf ho hD hinv hst (fun d hh=>by rw [e2 d hh,(hd d hh).2]) e3 (fun i' nx' hne hnm' hj'=> ?_)) e1
  rw [zbO _ _ (fun e=>hne (ci.inj i' i nx' hnm' (by rw [e];exact hnm)))]
  exact hj'
 ·rw [if_neg (by simp)]
  obtain ⟨z,hz,hd⟩:=hd
  obtain ⟨envS',e1,e2,e3⟩:=he.putS (o:=o) (hz j) (fun d hh=>(hd d hh).1)
  exact hK envS' j _ _ (ci.list pf ho hD ci.inv ci.st (fun d hh=>by rw [e2 d hh,(hd d hh).2]) e3 (fun _ _ _ _ h=>h)) e1
theorem CI.heavy (hgood:Good P ρ w0 n rec) (pf:PF ops) (ci:CI P ρ w0 ops N env0 H0 j0 D listed envS env j H w nm) (he:ER ρ j N envS a) {h u:Nat} {o:Oper} (ho:ops[h]? =some o) (hv:zbr o=true) (hD: ¬D h)
  (hcl: ∀i x,D i→(mkOf ops i).testBit x=true→D x) (hm: ∀x,(mkOf ops h).testBit x=true→listed x) (hu:(hsOf ops)[u]? =some h)
  (hDs: ∀i oi,D i→ops[i]? =some oi→stOf ops i≤u) {k:T AV→Heap→Ob} {rest:List zkS}
  {fs:List (SB×Bool)} (hf:Told ρ fs) (hden:Ob.den ρ (za9 P rec ops N k (.run o:: .chk (zeC u (mkOf ops h) (zdS ops))::rest) fs env H)) {K:Act→World→Prop}
  (hK: ∀envS' env' j' H' a' w' fs',CI P ρ w0 ops N env0 H0 j0 (fun x=>D x∨x=h) (fun x=>listed x∨x=h) envS' env' j' H' w' nm→ER ρ j' N envS' a'→Told ρ fs'→Ob.den ρ (za9 P rec ops N k rest fs' env' H')→K a' w'):
  wpOp P ops Q h K a w:=by
 have hag: ∀t∈looks ops o,envS.get t=env.get t:=fun t ht=>by
  by_cases hw: ∃q oq,listed q∧ops[q]? =some oq∧oq.dst=some t
  ·obtain ⟨q,oq,h1,h2,h3⟩:=hw
   exact ci.s1 t q oq h1 h2 h3
  ·rw [ci.s0 t fun q oq h1 h2 h3=>hw ⟨q,oq,h1,h2,h3⟩,ci.e0 t fun q oq h1 h2 h3=> ?_]
   rcases pf.reads h q o oq t ho h2 h3 ht with h4|h4
   ·exact hw ⟨q,oq,hm q h4,h2,h3⟩
   ·exact hD (hcl q h h1 h4)
 obtain ⟨g,z,fs',hgv,hz,hf',hd⟩:=zjC hf hden
 have hwant:=zrh he (by rw [zeJ hag];exact hgv)
 have main: ∀(v:AV) (x:Value) (H':Heap) (j':J) (w':World),R ρ j' v x→Inv ρ w0 j' H' w'→St j H j' H'→
   Ob.den ρ (putA o.dst N env v fun env'=>za9 P rec ops N k (.chk (zeC u (mkOf ops h) (zdS ops))::rest) fs' env' H')→K (a.put o.dst x) w':=by
  intro v x H' j' w' hR hinv hst hput
  obtain ⟨env',h5,h6,h7⟩:=zik hput
  obtain ⟨hchk,h8⟩:=zsF h5
  obtain ⟨envS',e1,e2,e3⟩:=(he.mono hst.sub).putS hR (fun d hh=>(h6 d hh).1)
  have hne: ∀i,D i→i≠h:=fun i hi e=>hD (e▸hi)
  have hkeep: ∀i oi t,D i→ops[i]? =some oi→oi.dst=some t→env'.get t=env.get t:=fun i oi t hi hoi hdd=>h7 t (pf.dsts i h oi o t (hne i hi) hoi ho hdd)
  have he0: ∀t,(∀i oi,(D i∨i=h)→ops[i]? =some oi→oi.dst≠some t)→env'.get t=env0.get t:=fun t ht=>by
   rw [h7 t (ht h o (.inr rfl) ho)]
   exact ci.e0 t fun i oi hi hoi=>ht i oi (.inl hi) hoi
  refine hK envS' env' j' H' _ w' fs' ⟨hinv,ci.st.trans hst,fun i hi=>hi.imp (ci.sub i) id,he0,fun t ht=> ?_,fun t i oi hi hoi hdd=> ?_,fun i oi hi hl hoi=> ?_,fun i nx hi=>Nat.lt_of_lt_of_le (ci.bnd i nx hi) hst.nx,ci.inj⟩ e1 hf' h8
  ·rw [e3 t (ht h o (.inr rfl) ho)]
   exact ci.s0 t fun i oi hi hoi=>ht i oi (.inl hi) hoi
  ·by_cases hih:i=h
   ·subst hih
    rw [ho] at hoi;cases hoi
    rw [e2 t hdd,(h6 t hdd).2]
   ·have hli:=hi.resolve_right hih
    rw [e3 t (pf.dsts i h oi o t hih hoi ho hdd),hkeep i oi t (ci.sub i hli) hoi hdd]
    exact ci.s1 t i oi hli hoi hdd
  ·have hih:i≠h:=fun e=>hl (.inr e)
   have hDi:D i:=hi.resolve_right hih
   have hli: ¬listed i:=fun e=>hl (.inl e)
   obtain ⟨envR,g',q1,q2,q3⟩:=ci.recd i oi hDi hli hoi
   have hdst: ∀v,ztJ N env oi v→ztJ N env' oi v:=fun v hv d hd=>⟨(hv d hd).1,by rw [hkeep i oi d hDi hoi hd];exact (hv d hd).2⟩
   have q2':zCA ops env0 env' envR i oi:=fun t ht=>⟨fun q oq hq hoq hdd=>by rw [(q2 t ht).1 q oq hq hoq hdd,hkeep q oq t (hcl i q hDi hq) hoq hdd],(q2 t ht).2⟩
   refine ⟨envR,g',q1,q2',?_⟩
   rcases q3 with ⟨rfl,g2,v',g3,g4⟩|⟨g1,g2,v',ob,nx,g3,g4,g5,g6,g7,g8⟩|⟨g1,g2⟩
   ·have hlight:=zBi g2
    have hbit:(mkOf ops h).testBit i=false:=by
     cases hb:(mkOf ops h).testBit i with
     | false=>rfl
     | true=>exact absurd (hm i hb) hli
    have hst':=hDs i oi hDi hoi
    have hag': ∀t∈looks ops oi,env'.get t=envR.get t:=fun t ht=>by
     by_cases hw: ∃(q:Nat) (oq:Oper),ops[q]? =some oq∧oq.dst=some t
     ·obtain ⟨q,oq,w1,w2⟩:=hw
      rcases pf.rer u h i q oi oq t hu hoi hlight hst' hbit w1 w2 ht with hq|hq
      ·exact ((q2' t ht).1 q oq hq w1 w2).symm
      ·have uniq: ∀q' oq',ops[q']? =some oq'→oq'.dst=some t→q'=q:=fun q' oq' x1 x2=>Classical.byContradiction fun hn=>pf.dsts q' q oq' oq t hn x1 w1 x2 w2
       rw [(q2' t ht).2 fun q' oq' x0 x1 x2=> ?_]
       ·refine he0 t fun q' oq' x0 x1 x2=> ?_
        have:=uniq q' oq' x1 x2
        subst this
        rcases x0 with x0|rfl
        ·have:=hDs q' oq' x0 x1;omega
        ·have:=ziX pf.edges hu;omega
       ·have:=uniq q' oq' x1 x2
        subst this
        have:=zr7 pf.edges x0
        omega
     ·rw [(q2' t ht).2 fun q oq _ w1 w2=>hw ⟨q,oq,w1,w2⟩]
      exact he0 t fun q oq _ w1 w2=>hw ⟨q,oq,w1,w2⟩
    have hmem:oi∈zeC u (mkOf ops h) (zdS ops):=zke.2 ⟨_,zdq.2 ⟨zeT hoi,hlight,hst',hbit⟩,rfl⟩
    rw [←zeJ hag'] at q1
    rcases zB6 hchk oi hmem with hno|⟨hyes,v1,c1,c2⟩
    ·have:=((zri (ops:=ops) (env:=env') hf' (o:=oi)).2.1 hno).1
     exact absurd (zKl this q1) (by simp)
    ·exact .inl ⟨rfl,g2,v1,by rw [←zkk (zhb hag')];exact c1,fun d hh=>⟨(g4 d hh).1,c2 d hh⟩⟩
   ·have hlt:=ci.inv.used nx ob g5
    have hnx0:0<nx:=by
     rcases Nat.eq_zero_or_pos nx with h0|h0
     ·subst h0
      obtain ⟨kk,rfl⟩:=ci.inv.z0 _ g5
      exact absurd g4 (zrV _ _ _ _ _)
     ·exact h0
    refine .inr (.inl ⟨g1,g2,v',ob,nx,g3,g4,by rw [(hst.keep nx hnx0 g6 hlt).1];exact g5,?_,g7,hdst v' g8⟩)
    cases hj':j' nx with
    | none=>rfl
    | some L=>have:=hst.fresh nx L hj' g6;omega
   ·exact (.inr (.inr ⟨g1,g2.elim fun z hz=>⟨z,hz.1,hdst _ hz.2⟩⟩))
 unfold wpOp
 simp only [ho]
 rw [hwant]
 cases g with
 | true=>
  rw [if_pos rfl]
  have hd:Ob.den ρ (doOp P rec o env H fun env v H=>putA o.dst N env v fun env'=>za9 P rec ops N k (.chk (zeC u (mkOf ops h) (zdS ops))::rest) fs' env' H):=hd
  unfold doOp at hd
  rw [zBW hv (pf.nodef h o ho)] at hd
  have hd:Ob.den ρ (Dw.heavy P rec o.op env H fun v H=>putA o.dst N env v fun env'=>za9 P rec ops N k (.chk (zeC u (mkOf ops h) (zdS ops))::rest) fs' env' H):=hd
  rw [←ztq (zhb hag)] at hd
  refine .inl (Oper.wp_mono (fun a' w' hp=> ?_) (zvR (Q:=Q) hgood ci.inv he hd))
  obtain ⟨x,rfl,v,H',j',h1,h2,h3,h4⟩:=hp
  exact main v x H' j' w' h1 h2 h3 h4
 | false=>
  rw [if_neg (by simp)]
  exact main z undef H j w (hz rfl j) ci.inv (St.refl j H) hd
def zoJ (ops:Array Oper) (s:Nat):List PO→List zkS
 | [] => []
 | h::rest=> .run h.o:: .chk (zeC s h.m (zdS ops))::zdn (zdS ops) (Nat.succ s) rest
theorem zjD (ops:Array Oper) (s:Nat) (l:List PO):zdn (zdS ops) s l=zi7 s (zdS ops)++zoJ ops s l:=by
 cases l with
 | nil=>simp [zdn,zoJ]
 | cons h l=>simp [zdn,zoJ]
theorem zDU (hgood:Good P ρ w0 n rec) (pf:PF ops) {k:T AV→Heap→Ob} (hQ: ∀a' w',OpsE ρ w0 j0 H0 N k a' w'→Q Exit.normal a' w'):
  ∀ (fuel:Nat) (listed:Array Bool) (s:Nat) (fs:List (SB×Bool)) (envS env:T AV) (j:J) (H:Heap) (a:Act) (w:World) (nm:Nat→Option Nat),listed.size=ops.size→zkU ops listed→listed.count false≤fuel→
   (∀ u h,(hsOf ops)[u]? =some h→(listed.getD h false=true↔u<s))→CI P ρ w0 ops N env0 H0 j0 (DD ops s ops.size) (fun i=>listed.getD i false=true) envS env j H w nm→ER ρ j N envS a→
   Ob.den ρ (za9 P rec ops N k (zoJ ops s ((hpOf ops).drop s)) fs env H)→Told ρ fs→wpAny P .any ops Q fuel listed a w:=by
 have fin: ∀(listed:Array Bool) (s:Nat) (fs:List (SB×Bool)) (envS env:T AV) (j:J) (H:Heap) (a:Act) (w:World) (nm:Nat→Option Nat),listed.size=ops.size→zkU ops listed→
   (∀ u h,(hsOf ops)[u]? =some h→(listed.getD h false=true↔u<s))→CI P ρ w0 ops N env0 H0 j0 (DD ops s ops.size) (fun i=>listed.getD i false=true) envS env j H w nm→ER ρ j N envS a→
   Ob.den ρ (za9 P rec ops N k (zoJ ops s ((hpOf ops).drop s)) fs env H)→Region.ready .any ops listed= []→Q .normal a w:=by
  intro listed s fs envS env j H a w nm hsz hcl hh ci he hden hr
  have hall:=zm8 pf.edges hsz hr
  have hdrop:(hpOf ops).drop s= []:=by
   rw [List.drop_eq_nil_iff,zfW]
   apply Classical.byContradiction
   intro hn
   have hx:(hsOf ops)[s]? =some (hsOf ops)[s]:=List.getElem?_eq_getElem (by omega)
   obtain ⟨o,ho,_⟩:=zgL.1 ⟨s,hx⟩
   have:=(hh s _ hx).1 (hall _ (Array.getElem?_eq_some_iff.1 ho).1)
   omega
  rw [hdrop] at hden
  refine hQ a w ⟨env,H,j,⟨he.size,he.le,fun t ht=> ?_,?_⟩,ci.inv,ci.st,hden⟩
  all_goals
   have heq: ∀t,envS.get t=env.get t:=fun t=>by
    by_cases hw: ∃(q:Nat) (oq:Oper),ops[q]? =some oq∧oq.dst=some t
    ·obtain ⟨q,oq,h1,h2⟩:=hw
     exact ci.s1 t q oq (hall q (Array.getElem?_eq_some_iff.1 h1).1) h1 h2
    ·rw [ci.s0 t fun q oq _ h1 h2=>hw ⟨q,oq,h1,h2⟩,ci.e0 t fun q oq _ h1 h2=>hw ⟨q,oq,h1,h2⟩]
  ·have:=he.get t ht
   unfold zaW at this ⊢
   rw [heq t] at this
   exact this
  ·have:=he.dfr
   unfold zaW at this ⊢
   rw [heq zaP] at this
   exact this
 intro fuel
 induction fuel with
 | zero=>
  intro listed s fs envS env j H a w nm hsz hcl hc hh ci he hden hf
  have hr:Region.ready .any ops listed= []:=by
   rw [List.eq_nil_iff_forall_not_mem]
   intro i hi
   have:=count_set (mem_ready.1 hi).1
   omega
  exact ⟨hr,fin listed s fs envS env j H a w nm hsz hcl hh ci he hden hr⟩
 | succ fuel ih=>
  intro listed s fs envS env j H a w nm hsz hcl hc hh ci he hden hf
  refine ⟨fin listed s fs envS env j H a w nm hsz hcl hh ci he hden,fun i hi=> ?_⟩
  obtain ⟨hun,o,ho,hedges⟩:=mem_ready.1 hi
  have hlt:=(Array.getElem?_eq_some_iff.1 ho).1
  have hun': ¬listed.getD i false=true:=by
   rw [Array.getD_eq_getD_getElem?,Array.getElem?_eq_getElem (by omega)] at hun ⊢
   simp only [Option.getD_some] at hun ⊢
   rw [hun];simp
  have hmask: ∀x,(mkOf ops i).testBit x=true→listed.getD x false=true:=fun x hx=>zkg hcl i o ho hedges x hx
  have hlc: ∀q x,listed.getD q false=true→(mkOf ops q).testBit x=true→listed.getD x false=true:=fun q x hq hx=>by
   cases hoq:ops[q]? with
   | none=>rw [zgx hoq] at hx;cases hx
   | some oq=>exact zkg hcl q oq hoq (fun e h1 h2=>hcl q oq hoq hq e h1 h2) x hx
  have hnew:(fun x=>listed.getD x false=true∨x=i)=fun x=>(listed.setIfInBounds i true).getD x false=true:=funext fun x=>propext (by
   by_cases hx:x=i
   ·subst hx
    constructor
    ·intro _;rw [Array.getD_eq_getD_getElem?,Array.getElem?_setIfInBounds_self,if_pos (by omega)];rfl
    ·intro _;exact .inr rfl
   ·rw [getD_set_ne false (Ne.symm hx)]
    exact ⟨fun h=>h.resolve_right hx,.inl⟩)
  have hsz':(listed.setIfInBounds i true).size=ops.size:=by simp [hsz]
  have hcl':=zmT hcl hi
  have hc':(listed.setIfInBounds i true).count false≤fuel:=by have:=count_set hun;omega
  cases hv:zbr o with
  | false=>
   have hD:DD ops s ops.size i:=by
    refine ⟨o,ho,.inl ⟨hv,?_⟩⟩
    rcases zne (ops:=ops) i with h0|⟨u,x,h1,h2,h3⟩
    ·omega
    ·have:=(hh u x h1).1 (hmask x h2)
     omega
   refine ci.late pf he ho hD hun' hmask hlc fun envS' j' a' w' ci' he'=> ?_
   rw [hnew] at ci'
   refine ih _ s fs envS' env j' H a' w' nm hsz' hcl' hc' (fun u h hu=> ?_) ci' he' hden hf
   have hne:i≠h:=fun e=>by
    subst e
    obtain ⟨o',h1,h2⟩:=zgL.1 ⟨u,hu⟩
    rw [ho] at h1;cases h1
    rw [hv] at h2;cases h2
   rw [getD_set_ne false hne]
   exact hh u h hu
  | true=>
   obtain ⟨u,hu⟩:=zgL.2 ⟨o,ho,hv⟩
   have hus:u=s:=by
    have h1: ¬u<s:=fun h=>hun' ((hh u i hu).2 h)
    apply Classical.byContradiction
    intro hne
    obtain ⟨v,rfl⟩: ∃v,u=v+1:=⟨u-1,by omega⟩
    have hvlt:v<(hsOf ops).length:=by have:=(List.getElem?_eq_some_iff.1 hu).1;omega
    have hx:(hsOf ops)[v]? =some (hsOf ops)[v]:=List.getElem?_eq_getElem hvlt
    have:=(hh v _ hx).1 (hmask _ (pf.chain v _ i hx hu))
    omega
   subst hus
   have hulen:u<(hpOf ops).length:=by rw [zfW];exact (List.getElem?_eq_some_iff.1 hu).1
   have hp:(hpOf ops)[u]? =some (hpOf ops)[u]:=List.getElem?_eq_getElem hulen
   obtain ⟨p1,p2,p3,p4⟩:=zBB hp
   have hpi:(hpOf ops)[u].i=i:=by rw [hu] at p1;exact (Option.some.inj p1).symm
   have hpo:(hpOf ops)[u].o=o:=by rw [hpi,ho] at p2;exact (Option.some.inj p2).symm
   have hpm:(hpOf ops)[u].m=mkOf ops i:=by rw [p3,hpi]
   have hdrop:(hpOf ops).drop u=(hpOf ops)[u]::(hpOf ops).drop (u+1):=List.drop_eq_getElem_cons hulen
   rw [hdrop] at hden
   have hden:Ob.den ρ (za9 P rec ops N k (.run (hpOf ops)[u].o:: .chk (zeC u (hpOf ops)[u].m (zdS ops))::zdn (zdS ops) (u+1) ((hpOf ops).drop (u+1))) fs env H):=hden
   rw [hpo,hpm] at hden
   have hD: ¬DD ops u ops.size i:=by
    rintro ⟨o',h1,h2⟩
    rw [ho] at h1;cases h1
    rcases h2 with ⟨h2,_⟩|⟨_,v,h3,h4⟩
    ·rw [hv] at h2;cases h2
    ·have:=zvP hu h4;omega
   refine ci.heavy hgood pf he ho hv hD (fun x y hx hy=>zCB pf.edges hx hy) hmask hu (fun x ox hx hox=> ?_) hf hden fun envS' env' j' H' a' w' fs' ci' he' hf' hden'=> ?_
   ·obtain ⟨o',h1,h2⟩:=hx
    rcases h2 with ⟨_,h2⟩|⟨_,v,h2,h3⟩
    ·omega
    ·have:=ziX pf.edges h3
     omega
   ·rw [hnew] at ci'
    rw [zjD] at hden'
    obtain ⟨env2,H2,nm2,fs2,ci2,hf2,hden2⟩:=zf2 pf ops.toList (zd9 ops.toList) 0 fs' env' H' nm hf' (by simp) (by simp) (ci'.congr (zEQ hu ho hv)) hden'
    refine ih _ (u+1) fs2 envS' env2 j' H2 a' w' nm2 hsz' hcl' hc' (fun v x hx=> ?_) ci2 he' hden2 hf2
    by_cases hxi:x=i
    ·subst hxi
     have:=zvP hu hx
     subst this
     constructor
     ·intro _;omega
     ·intro _;rw [Array.getD_eq_getD_getElem?,Array.getElem?_setIfInBounds_self,if_pos (by omega)];rfl
    ·rw [getD_set_ne false (Ne.symm hxi),hh v x hx]
     have:v≠u:=fun e=>by subst e;rw [hu] at hx;exact hxi (Option.some.inj hx).symm
     omega
theorem zma (hmo:P.follows .mixedOrders=true) (hgood:Good P ρ w0 n rec):zwy P ρ w0 rec:=by
 intro id ops N env H k j a w h hi he
 unfold zsg at h
 simp only at h
 split at h
 case h_2=>
  split at h
  case h_2=>exact h.elim
  rename_i r hr
  refine zxP (k:=k .normal) hmo hr hi he ?_ fun a' w' hh=> ?_
  ·have e:H=⟨H.m,H.nx,H.gw⟩:=rfl
   exact h
  ·obtain ⟨env',H',j',h1,h2,h3,h4⟩:=hh
   exact ⟨.normal,env',H',j',rfl,h1,h2,h3,h4⟩
 rename_i l hl
 obtain ⟨pf,rfl⟩:=zp2 hl
 rw [zjD] at h
 refine wp_region_any hmo ?_
 have hfalse: ∀i,((Array.replicate ops.size false).getD i false=true)↔False:=fun i=>by
  rw [Array.getD_eq_getD_getElem?,Array.getElem?_replicate]
  split<;>simp
 have ci0:CI P ρ w0 ops N env H j (DD ops 0 0) (fun i=>(Array.replicate ops.size false).getD i false=true) env env j H w.drew (fun _=>none):=by
  refine ⟨hi.drew,St.refl j H,fun i h=>((hfalse i).1 h).elim,fun _ _=>rfl,fun _ _=>rfl,fun t i o h=>((hfalse i).1 h).elim,fun i o hD=> ?_,fun i nx h=>(by cases h),fun i i' nx h=>(by cases h)⟩
  obtain ⟨o',_,h2⟩:=hD
  rcases h2 with ⟨_,h2⟩|⟨_,u,h2,_⟩<;>omega
 obtain ⟨env2,H2,nm2,fs2,ci2,hf2,hden2⟩:=zf2 pf ops.toList (zd9 ops.toList) 0 [] env H (fun _=>none) (fun _ h=>by cases h) (by simp) (by simp) ci0 h
 refine zDU (k:=k .normal) (j0:=j) (H0:=H) hgood pf (fun a' w' hh=> ?_) ops.size _ 0 fs2 env env2 j H2 a w.drew nm2 (by simp) ?_ ?_ (fun u h hu=> ?_) ci2 he (by simpa using hden2) hf2
 ·obtain ⟨env',H',j',h1,h2,h3,h4⟩:=hh
  exact ⟨.normal,env',H',j',rfl,h1,h2,h3,h4⟩
 ·intro i o ho hl
  exact ((hfalse i).1 hl).elim
 ·exact Nat.le_trans (Array.count_le_size) (by simp)
 ·constructor
  ·intro h;exact ((hfalse _).1 h).elim
  ·intro h;omega
end
end Go.Dw
namespace Go.Dw
mutual
theorem Ob.den_of_good {ρ:Val}: ∀ {o:Ob},o.good=true→o.den ρ
 | .ok,_=>trivial
 | .bad _ _,h=>by cases h
 | .all l,h=>Ob.denL_of_good (l:=l) h
 | .ite c t e,h=>by
  unfold Ob.good at h
  split at h
  ·rename_i ht
   exact ⟨fun _=>Ob.den_of_good ht,fun _=>Ob.den_of_good h⟩
  ·cases h
theorem Ob.denL_of_good {ρ:Val}: ∀ {l:List Ob},Ob.goodL l=true→Ob.denL ρ l
 | [], _=>trivial
 | o::l,h=>by
  unfold Ob.goodL at h
  split at h
  ·rename_i ho
   exact ⟨Ob.den_of_good ho,Ob.denL_of_good h⟩
  ·cases h
end
theorem inv0 {ρ:Val} (w:World):Inv ρ (Cx.plain w) (fun _=>none) heap0 w:=
 ⟨Fr.refl (Cx.plain w),(fun _ _ h=>by cases h),(fun _ _ h=>by cases h),(fun n o h=>by rw [show heap0.m.get n=none from rfl] at h;cases h),(fun _ _ h=>by cases h),(fun _ _ _ _ _ h=>by cases h),
  (fun n v e g t sh ow h=>by rw [show heap0.m.get n=none from rfl] at h;cases h),(fun g x h=>by rw [show heap0.gw.get g=none from rfl] at h;cases h),(fun _ _ _ _ _ _ _ h=>by cases h),(fun _ _ h=>by cases h),(fun _ _ _ _ _ _ h=>by cases h),rfl,Nat.zero_lt_one,(fun o h=>by rw [show heap0.m.get 0=none from rfl] at h;cases h),trivial⟩
theorem zEa {P:Program} {ρ:Val} {w0:Cx}:zfY P ρ w0 zxE:=fun f args H l h=>by cases h
theorem zra {ρ:Val} {j:J} {v:AV} {u:Value} {H:Heap} (hR:R ρ j v u) (h:Ob.den ρ (isTrue v H)):u= .bool true:=by
 unfold isTrue at h
 split at h
 ·exact hR
 ·exact h.elim
 ·rename_i b _ _
  have hR:u= .bool (b.den ρ):=hR
  cases hb:b.den ρ with
  | true=>rw [hR,hb]
  | false=>exact (h.2 hb).elim
 ·exact h.elim
theorem zyb {P:Program} (hmo:P.follows .mixedOrders=true) {orc:FuncId→List AV→Heap→Option (List (AV×Heap))} {ρ:Val} {w:World} (hor:zfY P ρ (Cx.plain w) orc) {n:Nat} {f:FuncId} {args:List AV} {vals:List Value} {H:Heap} {j:J}
  (hi:Inv ρ (Cx.plain w) j H w) (ha:RL ρ j args vals) (h:Ob.den ρ (ev P orc n (.call f args H isTrue))):Calls P f vals.toArray w fun e w'=>e= .returned (.bool true)∧RowKit.Below w.heap.size w w':=by
 have hg:=znU (w0:=Cx.plain w) hor (fun n rec hg=>zma hmo hg) n
 refine Calls.mono ((hg.call f args H isTrue h).2 j w vals hi ha) fun e w' he=> ?_
 obtain ⟨u,rfl,v,H',j',h1,h2,h3,h4⟩:=he
 rw [zra h1 h4]
 exact ⟨rfl,h2.fr.below⟩
open Go.RowKit Go.WideShapes Go.ChangeShapes in
theorem post_of_below {H:Type} {enc:TypeId×Value→H} {P:Program} {f:Func} {s:ChangeSpec} {apart fresh handsOn again:Bool} {W W':World} {args:Array Value} {v:Value} {ds gs:List (DataW H)} {before pa pv:List MemPlace}
  (hW:DataW.Whole enc P f.params.toList s.vars apart W args.toList ds gs before)
  (hres: ∀(b:Nat) (sp:Nat→Bool) (hd:Bool),DataW.TrodAll enc P W' b sp hd f.resultTypes.toList (v.resultList f.resultTypes.size) (s.fn H (ds++gs)).results [])
  (hargs: ∀sp:Nat→Bool,(∀p∈before,sp p.block=true)→DataW.TrodAll enc P W' 0 sp true f.params.toList args.toList (s.fn H (ds++gs)).args pa)
  (hvars: ∀sp:Nat→Bool,(∀p∈before,sp p.block=true)→DataW.TrodVars enc P W' sp s.vars (s.fn H (ds++gs)).vars pv)
  (hps:before=pa++pv) (hb:Below W.heap.size W W')
  (hok: ∀(j:Nat) (t:TypeId) (r:Value),f.resultTypes[j]? =some t→(v.resultList f.resultTypes.size)[j]? =some r→Value.okWide P W' .any 0 t r):
  s.post enc P f apart fresh handsOn again W args v W':=by
 have hlt: ∀p∈before,p.block<W.heap.size:=fun p hp=>hW.lt p hp
 have hold: ∀p∈before,(fun b=>decide (b<W.heap.size)) p.block=true:=fun p hp=>by simpa using hlt p hp
 refine ⟨ds,gs,before,[],pa,pv,hW,hres _ _ _,hargs _ hold,hvars _ hold,World.keptBut_mono (fun p hp=>⟨hp,?_⟩) (hb.frame (· ∈before)),fun _=> ?_⟩
 ·rw [hps,List.mem_append] at hp
  exact Or.inr hp
 ·obtain ⟨_,_,_,_,_,hz,hn⟩:=hW
  refine ⟨hok,_,_,([]++pa)++pv,⟨[]++pa,pv,trodAll_append (hargs _ (fun _ _=>rfl)) (hres _ _ _),hvars _ (fun _ _=>rfl),rfl,?_,?_⟩,?_⟩
  ·intro b off hp
   have hin:MemPlace.cell b off∈before:=by rw [hps];simpa using hp
   rw [hb.frozen (hlt _ hin)]
   exact hz b off hin
  ·intro ha
   have:=hn ha
   rw [hps] at this
   simpa using this
  ·intro p hp _
   rw [hps]
   simpa using hp
open Go.RowKit
def Val.mark (ρ:Val) (m:Nat→Bool):Val:=⟨ρ.i,fun n=>if n<1000000 then ρ.b n else m n,ρ.v⟩
def SB.small:SB→Bool
 | .lit _=>true
 | .var n=>Nat.blt n 1000000
 | .cmp _ _ _=>true
 | .not a=>a.small
 | .beq a b=>match a.small with|true=>b.small|false=>false
 | .and a b=>match a.small with|true=>b.small|false=>false
theorem zrm (ρ:Val) (m:Nat→Bool): ∀(l:List Fld) (c:Nat),zaj (ρ.mark m) l c=zaj ρ l c
 | [], c=>rfl
 | f::l,c=>by
  unfold zaj
  rw [zrm ρ m l c]
  rfl
theorem SE.den_mark (ρ:Val) (m:Nat→Bool): ∀a:SE,a.den (ρ.mark m)=a.den ρ
 | .lit n=>rfl
 | .var i=>rfl
 | .bin o k a b=>by unfold SE.den;rw [SE.den_mark ρ m a,SE.den_mark ρ m b]
 | .wrap k a=>by unfold SE.den;rw [SE.den_mark ρ m a]
 | .flds l c=>by unfold SE.den;rw [zrm]
theorem SB.den_mark (ρ:Val) (m:Nat→Bool): ∀b:SB,b.small=true→b.den (ρ.mark m)=b.den ρ
 | .lit b,_=>rfl
 | .var n,h=>by
  have h:Nat.blt n 1000000=true:=h
  rw [Nat.blt_eq] at h
  show (if n<1000000 then ρ.b n else m n)=ρ.b n
  rw [if_pos h]
 | .cmp o a b,_=>by unfold SB.den;rw [SE.den_mark,SE.den_mark]
 | .not a,h=>by unfold SB.den;rw [SB.den_mark ρ m a h]
 | .beq a b,h=>by
  unfold SB.small at h
  split at h
  ·rename_i ha;unfold SB.den;rw [SB.den_mark ρ m a ha,SB.den_mark ρ m b h]
  ·cases h
 | .and a b,h=>by
  unfold SB.small at h
  split at h
  ·rename_i ha;unfold SB.den;rw [SB.den_mark ρ m a ha,SB.den_mark ρ m b h]
  ·cases h
structure Leaf where
 v:AV
 rows:List (Nat×List AV)
 maps:List (Nat×List (AV×Option AV))
 gs:Nat
 own:List Nat
def zpk (H:Heap) (n:Nat) (l:List AV):Bool:=
 match H.m.get n with
 | some (.cells v _ g c _ _)=>(match alive H.gw g c,Nat.beq v.n l.length with
  | true,true=>AV.beqL (v.list 0 v.n) l
  | _,_=>false)
 | _=>false
def zA1:Option AV→Option AV→Bool
 | none,none=>true
 | some a,some b=>AV.beq a b
 | _,_=>false
def zvF:List (AV×Option AV)→List (AV×Option AV)→Bool
 | [], [] => true
 | a::l,b::m=>(match AV.beq a.1 b.1,zA1 a.2 b.2 with
  | true,true=>zvF l m
  | _,_=>false)
 | _,_=>false
def zxM (H:Heap) (n:Nat) (l:List (AV×Option AV)):Bool:=
 match H.m.get n with
 | some (.mapx _ log)=>zvF log l
 | _=>false
def zrk (H:Heap) (n:Nat):Nat:=
 match H.m.get n with
 | some (.cells _ _ g _ _ _)=>g
 | _=>0
def zEl (H:Heap) (g:Nat):List (Nat×List AV)→Bool
 | [] => false
 | p::l=>match Nat.beq (zrk H p.1) g with|true=>true|false=>zEl H g l
def zcw (H:Heap):List (Nat×List AV)→Bool
 | [] => true
 | p::l=>match zpk H p.1 p.2,zEl H (zrk H p.1) l with|true,false=>zcw H l|_,_=>false
theorem znQ {H:Heap} {g:Nat}: ∀ {l:List (Nat×List AV)},zEl H g l=false→ ∀ {r:Nat×List AV},r∈l→zrk H r.1≠g
 | [], _,_,h=>by cases h
 | x::l,ha,r,h=>by
  unfold zEl at ha
  split at ha
  ·cases ha
  rename_i h1
  rcases List.mem_cons.1 h with rfl|h
  ·intro e
   rw [e] at h1
   simp [Nat.beq_refl] at h1
  ·exact znQ ha h
theorem zgk {H:Heap}: ∀ {l:List (Nat×List AV)},zcw H l=true→ ∀ {r r':Nat×List AV},r∈l→r'∈l→r.1≠r'.1→zrk H r.1≠zrk H r'.1
 | [], _,_,_,h,_,_=>by cases h
 | x::l,ha,r,r',h,h',hne=>by
  unfold zcw at ha
  split at ha
  case h_2=>cases ha
  rename_i h1 h2
  rcases List.mem_cons.1 h with h3|h3
  ·rcases List.mem_cons.1 h' with h4|h4
   ·exact absurd (by rw [h3,h4]) hne
   ·rw [h3];exact fun e=>znQ h2 h4 e.symm
  ·rcases List.mem_cons.1 h' with h4|h4
   ·rw [h4];exact znQ h2 h3
   ·exact zgk ha h3 h4 hne
def zfR (H:Heap):List (Nat×List (AV×Option AV))→Bool
 | [] => true
 | p::l=>match zxM H p.1 p.2 with|true=>zfR H l|false=>false
def zJK (H:Heap) (n:Nat):Bool:=
 match H.m.get n with
 | some (.cells _ _ g _ _ true)=>Nat.beq g n
 | _=>false
def zkb (H:Heap):List Nat→Bool
 | [] => true
 | n::l=>match zJK H n with|true=>zkb H l|false=>false
theorem zka {H:Heap}: ∀ {l:List Nat},zkb H l=true→ ∀ {n:Nat},n∈l→ ∃v e c sh,H.m.get n=some (.cells v e n c sh true)
 | [], _,_,h=>by cases h
 | x::l,ha,n,h=>by
  unfold zkb at ha
  split at ha
  case h_2=>cases ha
  rename_i h1
  rcases List.mem_cons.1 h with rfl|h
  ·unfold zJK at h1
   split at h1
   ·rename_i hm
    have h1:=zav h1
    subst h1
    exact ⟨_,_,_,_,hm⟩
   ·cases h1
  ·exact zka ha h
def Leaf.fits (l:Leaf) (v:AV) (H:Heap):Bool:=
 match AV.beq v l.v,zcw H l.rows,zfR H l.maps,Nat.beq H.gs l.gs with
 | true,true,true,true=>zkb H l.own
 | _,_,_,_=>false
def zaR:List Leaf→Nat→AV→Heap→Ob
  | [], _, _, _ => .bad 95 ""
  | l::r,i,v,H=>match l.fits v H with
    | true => zet (Nat.add 1000000 i) fun n => .ite (.var n) .ok (.bad 96 "")
    | false=>zaR r (Nat.succ i) v H
def zBr:SB→Option Nat
 | .var n=>(match Nat.ble 1000000 n with|true=>some (Nat.sub n 1000000)|false=>none)
 | _=>none
def zHW:BinOp→Option BinOp
 | .eql=>some .neq| .neq=>some .eql| .lss=>some .geq| .geq=>some .lss| .leq=>some .gtr| .gtr=>some .leq
 | _=>none
def zyX:BinOp→BinOp
 | .lss=> .gtr| .gtr=> .lss| .leq=> .geq| .geq=> .leq
 | o=>o
def zBu:BinOp→Bool
 | .eql| .neq| .lss| .leq| .gtr| .geq=>true
 | _=>false
def zCJ (pre:List (SB×Bool)) (o:BinOp) (a b:SE):Option Bool:=
 match zf1 (.cmp o a b) pre with
 | some c=>some c
 | none=>match zHW o with
  | some o'=>(match zf1 (.cmp o' a b) pre with|some true=>some false|some false=>some true|none=>none)
  | none=>none
def zh5 (pre:List (SB×Bool)):SB→Option Bool
 | .lit b=>some b
 | .not a=>(match zf1 (.not a) pre with
  | some b=>some b
  | none=>match zh5 pre a with|some true=>some false|some false=>some true|none=>none)
 | .and a b=>(match zf1 (.and a b) pre with
  | some c=>some c
  | none=>match zh5 pre a with
   | some false=>some false
   | some true=>zh5 pre b
   | none=>match zh5 pre b with|some false=>some false|_=>none)
 | .cmp o a b=>(match zCJ pre o a b with
  | some c=>some c
  | none=>match zBu o with
   | true=>zCJ pre (zyX o) b a
   | false=>none)
 | c=>zf1 c pre
def zkV (pre:List (SB×Bool)):SB→SB
 | .lit b=> .lit b
 | .not a=>(match zh5 pre (.not a) with
  | some b=> .lit b
  | none=>mkNot (zkV pre a))
 | .and a b=>(match zh5 pre (.and a b) with
  | some c=> .lit c
  | none=>mkAnd (zkV pre a) (zkV pre b))
 | c=>(match zh5 pre c with
  | some b=> .lit b
  | none=>c)
def tell (pre:List (SB×Bool)):SB→Bool→List (SB×Bool)
 | .not a,b=>tell pre a (match b with|true=>false|false=>true)
 | .and a b,true=>tell (tell pre a true) b true
 | c,b=>pre++ [(c,b)]
mutual
def Ob.paths (pre:List (SB×Bool)):Ob→Option (List (List (SB×Bool)×Nat))
 | .ok=>none
 | .bad _ _=>none
 | .all l=>Ob.pathsL pre l
 | .ite c t e=>match zBr c with
  | some i=>(match t,e with
   | .ok,.bad _ _=>some [(pre,i)]
   | _,_=>none)
  | none=>match c.small with
   | false=>none
   | true=>match zkV pre c with
    | .lit true=>Ob.paths pre t
    | .lit false=>Ob.paths pre e
    | c=>match zh5 pre c with
     | some true=>Ob.paths pre t
     | some false=>Ob.paths pre e
     | none=>match Ob.paths (tell pre c true) t,Ob.paths (tell pre c false) e with
      | some a,some b=>some (a++b)
      | _,_=>none
def Ob.pathsL (pre:List (SB×Bool)):List Ob→Option (List (List (SB×Bool)×Nat))
 | [] => some []
 | o::l=>match Ob.paths pre o,Ob.pathsL pre l with
  | some a,some b=>some (a++b)
  | _,_=>none
end
theorem zxJ {n:Nat} (h:Nat.ble 1000000 n=true):1000000+Nat.sub n 1000000=n∧ ¬n<1000000:=by
 have h:=Nat.le_of_ble_eq_true h
 have e:Nat.sub n 1000000=n-1000000:=rfl
 rw [e]
 omega
theorem zBq {c:SB} {i:Nat} (h:zBr c=some i): ∃n,c= .var n∧1000000+i=n∧ ¬n<1000000:=by
 unfold zBr at h
 split at h
 case h_2=>cases h
 rename_i n
 split at h
 case h_2=>cases h
 rename_i hn
 have h:=Option.some.inj h
 obtain ⟨h1,h2⟩:=zxJ hn
 exact ⟨n,rfl,by rw [←h];exact h1,h2⟩
theorem zqK {ρ:Val} {o o':BinOp} {a b:SE} (h:zHW o=some o'):SB.den ρ (.cmp o a b)= !(SB.den ρ (.cmp o' a b)):=by
 cases o<;>simp only [zHW] at h<;>cases h<;>simp only [SB.den,zen]
 ·cases hh:(a.den ρ==b.den ρ)<;>simp_all [bne]
 ·cases hh:(a.den ρ==b.den ρ)<;>simp_all [bne]
 all_goals
  rw [←decide_not]
  congr 1
  exact propext (by omega)
theorem zwJ {ρ:Val} {o:BinOp} {a b:SE} (h:zBu o=true):SB.den ρ (.cmp (zyX o) b a)=SB.den ρ (.cmp o a b):=by
 have he:(b.den ρ==a.den ρ)=(a.den ρ==b.den ρ):=by
  rw [Bool.eq_iff_iff,beq_iff_eq,beq_iff_eq]
  exact ⟨Eq.symm,Eq.symm⟩
 cases o<;>simp only [zBu] at h<;>first|cases h|skip
 all_goals simp only [zyX,SB.den,zen]
 ·exact he
 ·unfold bne;rw [he]
theorem zoG {ρ:Val} {pre:List (SB×Bool)} (ht:Told ρ pre) {o:BinOp} {x y:SE} {b':Bool} (h:zCJ pre o x y=some b'):SB.den ρ (.cmp o x y)=b':=by
 unfold zCJ at h
 split at h
 ·rename_i hb;cases h;exact zdt ht hb
 ·split at h
  ·rename_i o' ho
   split at h
   ·rename_i hb;cases h;rw [zqK ho,zdt ht hb];rfl
   ·rename_i hb;cases h;rw [zqK ho,zdt ht hb];rfl
   ·cases h
  ·cases h
theorem zbG {ρ:Val} {pre:List (SB×Bool)} (ht:Told ρ pre): ∀ {c:SB} {b:Bool},zh5 pre c=some b→c.den ρ=b
 | .lit b,b',h=>by cases h;rfl
 | .var n,b',h=>zdt ht h
 | .beq x y,b',h=>zdt ht h
 | .not a,b',h=>by
  unfold zh5 at h
  split at h
  ·rename_i hb;cases h;exact zdt ht hb
  ·split at h
   ·rename_i ha;cases h;show (!(a.den ρ))=false;rw [zbG ht ha];rfl
   ·rename_i ha;cases h;show (!(a.den ρ))=true;rw [zbG ht ha];rfl
   ·cases h
 | .and x y,b',h=>by
  unfold zh5 at h
  split at h
  ·rename_i hb;cases h;exact zdt ht hb
  ·split at h
   ·rename_i ha;cases h;show (x.den ρ&&y.den ρ)=false;rw [zbG ht ha];rfl
   ·rename_i ha;show (x.den ρ&&y.den ρ)=b';rw [zbG ht ha,zbG ht h];rfl
   ·split at h
    ·rename_i ha;cases h;show (x.den ρ&&y.den ρ)=false;rw [zbG ht ha];simp
    ·cases h
 | .cmp o x y,b',h=>by
  unfold zh5 at h
  split at h
  ·rename_i hb;cases h;exact zoG ht hb
  ·split at h
   ·rename_i ho;rw [←zwJ ho];exact zoG ht h
   ·cases h
theorem zew {ρ:Val} {l:List (SB×Bool)} {c:SB} {b:Bool} (h:Told ρ l) (hc:c.den ρ=b):Told ρ (l++ [(c,b)]):=fun x hx=>by
 rcases List.mem_append.1 hx with hx|hx
 ·exact h x hx
 ·rw [List.mem_singleton] at hx;subst hx;exact hc
theorem zf6 {ρ:Val} {pre:List (SB×Bool)} (ht:Told ρ pre): ∀c:SB,(zkV pre c).den ρ=c.den ρ
 | .lit b=>rfl
 | .not a=>by
  unfold zkV
  split
  ·rename_i h;exact (zbG ht h).symm
  ·rw [zb2,zf6 ht a];rfl
 | .and a b=>by
  unfold zkV
  split
  ·rename_i h;exact (zbG ht h).symm
  ·rw [zcH,zf6 ht a,zf6 ht b];rfl
 | .var n=>by
  unfold zkV
  split
  ·rename_i h;exact (zbG ht h).symm
  ·rfl
 | .cmp o a b=>by
  unfold zkV
  split
  ·rename_i h;exact (zbG ht h).symm
  ·rfl
 | .beq a b=>by
  unfold zkV
  split
  ·rename_i h;exact (zbG ht h).symm
  ·rfl
theorem zex {ρ:Val}: ∀(c:SB) (pre:List (SB×Bool)) (b:Bool),Told ρ pre→c.den ρ=b→Told ρ (tell pre c b)
 | .not a,pre,b,ht,h=>by
  unfold tell
  refine zex a pre _ ht ?_
  have h:(!(a.den ρ))=b:=h
  cases b<;>cases ha:a.den ρ<;>simp_all
 | .and a b,pre,true,ht,h=>by
  unfold tell
  have h:(a.den ρ&&b.den ρ)=true:=h
  rw [Bool.and_eq_true] at h
  exact zex b _ _ (zex a pre _ ht h.1) h.2
 | .and a b,pre,false,ht,h=>zew ht h
 | .lit _,pre,b,ht,h=>by unfold tell;exact zew ht h
 | .var _,pre,b,ht,h=>by unfold tell;exact zew ht h
 | .cmp _ _ _,pre,b,ht,h=>by unfold tell;exact zew ht h
 | .beq _ _,pre,b,ht,h=>by unfold tell;exact zew ht h
mutual
theorem paths_den {ρ:Val} {m:Nat→Bool} {ps:List (List (SB×Bool)×Nat)} (hm: ∀p∈ps,Told ρ p.1→m (1000000+p.2)=true):
  ∀ {o:Ob} {pre:List (SB×Bool)} {qs:List (List (SB×Bool)×Nat)},o.paths pre=some qs→(∀q∈qs,q∈ps)→Told ρ pre→o.den (ρ.mark m)
 | .ok,pre,qs,h,_,_=>by unfold Ob.paths at h;cases h
 | .bad _ _,pre,qs,h,_,_=>by unfold Ob.paths at h;cases h
 | .all l,pre,qs,h,hq,ht=>by
  unfold Ob.paths at h
  exact pathsL_den (l:=l) hm h hq ht
 | .ite c t e,pre,qs,h,hq,ht=>by
  unfold Ob.paths at h
  split at h
  ·rename_i i hi
   split at h
   ·cases h
    obtain ⟨n,rfl,e1,e2⟩:=zBq hi
    have:=hm (pre,i) (hq _ (by simp)) ht
    rw [e1] at this
    have hd:SB.den (ρ.mark m) (.var n)=true:=by
     show (if n<1000000 then ρ.b n else m n)=true
     rw [if_neg e2];exact this
    exact ⟨fun _=>trivial,fun hf=>by rw [hd] at hf;cases hf⟩
   ·cases h
  ·split at h
   ·cases h
   ·rename_i hs
    have hd:=SB.den_mark ρ m c hs
    have hsi:=zf6 ht c
    split at h
    ·rename_i hl
     rw [hl] at hsi
     have hc:c.den ρ=true:=hsi.symm
     exact ⟨fun _=>paths_den hm h hq ht,fun hf=>(by rw [hd,hc] at hf;cases hf)⟩
    ·rename_i hl
     rw [hl] at hsi
     have hc:c.den ρ=false:=hsi.symm
     exact ⟨fun hf=>(by rw [hd,hc] at hf;cases hf),fun _=>paths_den hm h hq ht⟩
    ·split at h
     ·rename_i hta
      have hc:=zbG ht hta
      rw [hsi] at hc
      exact ⟨fun _=>paths_den hm h hq ht,fun hf=>(by rw [hd,hc] at hf;cases hf)⟩
     ·rename_i hta
      have hc:=zbG ht hta
      rw [hsi] at hc
      exact ⟨fun hf=>(by rw [hd,hc] at hf;cases hf),fun _=>paths_den hm h hq ht⟩
     ·split at h
      ·rename_i a b h1 h2
       cases h
       exact ⟨fun hc=>paths_den hm h1 (fun q hq'=>hq q (by simp [hq'])) (zex _ _ _ ht (by rw [hsi,←hd];exact hc)),fun hc=>paths_den hm h2 (fun q hq'=>hq q (by simp [hq'])) (zex _ _ _ ht (by rw [hsi,←hd];exact hc))⟩
      ·cases h
theorem pathsL_den {ρ:Val} {m:Nat→Bool} {ps:List (List (SB×Bool)×Nat)} (hm: ∀p∈ps,Told ρ p.1→m (1000000+p.2)=true):
  ∀ {l:List Ob} {pre:List (SB×Bool)} {qs:List (List (SB×Bool)×Nat)},Ob.pathsL pre l=some qs→(∀q∈qs,q∈ps)→Told ρ pre→Ob.denL (ρ.mark m) l
 | [], _,_,_,_,_=>trivial
 | o::l,pre,qs,h,hq,ht=>by
  unfold Ob.pathsL at h
  split at h
  ·rename_i a b h1 h2
   cases h
   exact ⟨paths_den hm h1 (fun q hq'=>hq q (by simp [hq'])) ht,pathsL_den hm h2 (fun q hq'=>hq q (by simp [hq'])) ht⟩
  ·cases h
end
theorem zhm {ρ:Val} {v:AV} {H:Heap}: ∀ {ls:List Leaf} {i:Nat},Ob.den ρ (zaR ls i v H)→ ∃k l,ls[k]? =some l∧l.fits v H=true∧ρ.b (1000000+(i+k))=true
 | [], i,h=>h.elim
 | l::r,i,h=>by
  unfold zaR at h
  split at h
  ·rename_i hf
   rw [zcq] at h
   refine ⟨0,l,rfl,hf,?_⟩
   cases hb:ρ.b (1000000+(i+0)) with
   | true=>rfl
   | false=>exact (h.2 hb).elim
  ·obtain ⟨k,l',h1,h2,h3⟩:=zhm h
   refine ⟨k+1,l',h1,h2,?_⟩
   rw [show i+(k+1)=Nat.succ i+k by omega]
   exact h3
theorem zD6 {P:Program} (hmo:P.follows .mixedOrders=true) {orc:FuncId→List AV→Heap→Option (List (AV×Heap))} {x:Cx} {ρ:Val} {w:World} {n:Nat} {f:FuncId} {args:List AV} {vals:List Value} {H:Heap} {j:J} {ls:List Leaf} {asm:List (SB×Bool)} {ps:List (List (SB×Bool)×Nat)}
  (hor: ∀m,zfY P (ρ.mark m) x orc) (hi: ∀m,Inv (ρ.mark m) x j H w) (ha: ∀m,RL (ρ.mark m) j args vals) (ht:Told ρ asm)
  (h:(ev P orc n (.call f args H (zaR ls 0))).paths asm=some ps):
  Calls P f vals.toArray w fun e w'=> ∃p∈ps,Told ρ p.1∧ ∃l,ls[p.2]? =some l∧ ∃m u v j' H',e= .returned u∧R (ρ.mark m) j' v u∧Inv (ρ.mark m) x j' H' w'∧St j H j' H'∧l.fits v H'=true:=by
 classical
 let m:Nat→Bool:=fun k=>decide (∃p∈ps,1000000+p.2=k∧Told ρ p.1)
 have hm: ∀p∈ps,Told ρ p.1→m (1000000+p.2)=true:=fun p hp ht=>by
  show decide _=true
  exact decide_eq_true ⟨p,hp,rfl,ht⟩
 have hd:=paths_den hm h (fun q hq=>hq) ht
 have hg:=znU (w0:=x) (hor m) (fun n rec hg=>zma hmo hg) n
 refine Calls.mono ((hg.call f args H (zaR ls 0) hd).2 j w vals (hi m) (ha m)) fun e w' he=> ?_
 obtain ⟨u,rfl,v,H',j',h1,h2,h3,h4⟩:=he
 obtain ⟨k,l,h5,h6,h7⟩:=zhm h4
 have h7:(if 1000000+(0+k)<1000000 then ρ.b (1000000+(0+k)) else m (1000000+(0+k)))=true:=h7
 rw [if_neg (by omega)] at h7
 obtain ⟨p,hp,hk,hto⟩:=of_decide_eq_true h7
 have:p.2=k:=by omega
 subst this
 exact ⟨p,hp,hto,l,h5,m,u,v,j',H',rfl,h1,h2,h3,h6⟩
theorem zJZ {l:Leaf} {v:AV} {H:Heap} (h:l.fits v H=true):v=l.v∧zcw H l.rows=true∧zfR H l.maps=true∧H.gs=l.gs∧zkb H l.own=true:=by
 unfold Leaf.fits at h
 split at h
 ·rename_i h1 h2 h3 h4
  exact ⟨AV.beq_eq h1,h2,h3,zav h4,h⟩
 ·cases h
theorem ze2 {H:Heap} {n:Nat} {l:List AV} (h:zpk H n l=true): ∃v e g c s o,H.m.get n=some (.cells v e g c s o)∧alive H.gw g c=true∧v.n=l.length∧ ∀i (hi:i<l.length),v.get i=l[i]:=by
 unfold zpk at h
 split at h
 case h_2=>cases h
 rename_i v e g c s o hm
 split at h
 case h_2=>cases h
 rename_i ha hn
 have hn:=zav hn
 have hb:=AV.beqL_eq h
 refine ⟨v,e,g,c,s,o,hm,ha,hn,fun i hi=> ?_⟩
 have h1:=Vec.getElem_list v.n v 0 i (by omega)
 rw [hb,List.getElem?_eq_getElem hi] at h1
 rw [Option.some.inj h1,Nat.zero_add]
theorem Inv.rowOut {ρ:Val} {x:Cx} {j:J} {H:Heap} {w:World} (hi:Inv ρ x j H w) {n:Nat} {L:Loc} {l:List AV} (hj:j n=some L) (hr:zpk H n l=true):
  ∃ vals arr e fr,w.heap[L.blk]? =some (.cells arr e fr)∧RL ρ j l vals∧(∀(i:Nat) (y:Value),vals[i]? =some y→arr[L.off+i]? =some y)∧L.q=none∧(x.own L.blk→fr=(0,0)):=by
 obtain ⟨v,e,gr,c,s,o,hm,ha,hn,hg⟩:=ze2 hr
 have hrow:H.row n=some v:=by unfold Heap.row;rw [hm];simp only [ha]
 obtain ⟨arr,e',fr,h1,h2,h3⟩:=hi.row hj hrow
 have hq:=hi.qrow hj hm
 refine ⟨(List.range l.length).map fun i=>arr.getD (L.off+i) undef,arr,e',fr,h1,RL.of_get (by simp) fun i a hia=> ?_,fun i y hy=> ?_,hq,fun ho=>hi.fz n L hj hq ho _ _ _ h1⟩
 ·have hlt:i<l.length:=by
   rcases Nat.lt_or_ge i l.length with h'|h'
   ·exact h'
   ·rw [List.getElem?_eq_none h'] at hia;cases hia
  obtain ⟨y,h4,h5⟩:=h3 i (by omega)
  refine ⟨y,by simp [hlt,h4],?_⟩
  rw [hg i hlt] at h5
  rw [List.getElem?_eq_getElem hlt] at hia
  cases hia
  exact h5
 ·have hlt:i<l.length:=by
   rcases Nat.lt_or_ge i l.length with h'|h'
   ·exact h'
   ·rw [List.getElem?_eq_none (by simpa using h')] at hy;cases hy
  obtain ⟨z,h4,_⟩:=h3 i (by omega)
  simp [hlt,h4] at hy
  rw [h4,hy]
theorem Inv.rowsApart {ρ:Val} {x:Cx} {j:J} {H:Heap} {w:World} (hi:Inv ρ x j H w) {n m:Nat} {L M:Loc} {l k:List AV} (hne:n≠m) (hgr:zrk H n≠zrk H m) (hn:j n=some L) (hm:j m=some M) (hl:zpk H n l=true) (hk:zpk H m k=true) (hb:L.blk=M.blk): ¬x.own L.blk:=by
 obtain ⟨v,e,g0,c,s,o,h1,_⟩:=ze2 hl
 obtain ⟨v',e',g0',c',s',o',h2,_⟩:=ze2 hk
 unfold zrk at hgr
 rw [h1,h2] at hgr
 obtain ⟨_,_,_,_,_,_,_,_,_,_,_,_,h3,h4,h5,h6⟩:=hi.sep n m L M hne hn hm (hi.qrow hn h1) (hi.qrow hm h2) hb
 rw [h1] at h3;cases h3
 rw [h2] at h4;cases h4
 cases o with
 | true=>exact absurd (h6 rfl).1 hgr
 | false=>
  obtain ⟨ob,g1,g2⟩:=hi.obj n L hn
  rw [h1] at g1;cases g1
  have:=g2.2.1
  rwa [if_neg (by decide)] at this
theorem Inv.rowMapApart {ρ:Val} {x:Cx} {j:J} {H:Heap} {w:World} (hi:Inv ρ x j H w) {n m:Nat} {L M:Loc} {l:List AV} {k:List (AV×Option AV)} (hn:j n=some L) (hm:j m=some M) (hl:zpk H n l=true) (hk:zxM H m k=true):L.blk≠M.blk:=fun hb=>by
 obtain ⟨v,e,g0,c,s,o,h1,_⟩:=ze2 hl
 unfold zxM at hk
 split at hk
 case h_2=>cases hk
 rename_i kn log h2
 have hne:n≠m:=fun e=>by subst e;rw [h1] at h2;cases h2
 obtain ⟨_,_,_,_,_,_,_,_,_,_,_,_,h3,h4,h5,h6⟩:=hi.sep n m L M hne hn hm (hi.qrow hn h1) (hi.q hm h2 (by intro e;cases e)) hb
 rw [h2] at h4;cases h4
theorem zA0 {a b:Option AV} (h:zA1 a b=true):a=b:=by
 cases a<;>cases b<;>simp only [zA1] at h<;>first|rfl|rw [AV.beq_eq h]|cases h
theorem zqU: ∀ {a b:List (AV×Option AV)},zvF a b=true→a=b
 | [], [], _=>rfl
 | [], _::_,h=>by cases h
 | _::_,[],h=>by cases h
 | x::a,y::b,h=>by
  unfold zvF at h
  split at h
  ·rename_i h1 h2
   rw [zqU h,Prod.ext (AV.beq_eq h1) (zA0 h2)]
  ·cases h
theorem Inv.mapOut {ρ:Val} {x:Cx} {j:J} {H:Heap} {w:World} (hi:Inv ρ x j H w) {n:Nat} {L:Loc} {l:List (AV×Option AV)} (hj:j n=some L) (hr:zxM H n l=true):
  ∃ arr clock arr0 clock0 m1,w.heap[L.blk]? =some (.map arr clock)∧x.w.heap[L.blk]? =some (.map arr0 clock0)∧(zdA arr∧Born arr clock)∧RX ρ j l m1∧ ∀k,zbm arr k=mlog (zbm arr0) m1 k:=by
 unfold zxM at hr
 split at hr
 case h_2=>cases hr
 rename_i kn log hm
 rw [←zqU hr]
 obtain ⟨ob,h1,h2⟩:=hi.obj n L hj
 rw [hm] at h1;cases h1
 obtain ⟨_,_,_,arr,clock,arr0,clock0,m0,m1,h3,h4,h5,_,h7,_,h9⟩:=h2
 exact ⟨arr,clock,arr0,clock0,m1,h3,h4,⟨h5.1,h5.2.1⟩,h7,h9⟩
inductive Sh where
 | own (row:List AV)
 | ro (row:List AV)
 | mapx (kn:List (AV×Option AV))
def Sh.obj (s:Sh) (n:Nat):Obj:=
 match s with
 | .own row=> .cells (Vec.ofList row) 0 n none false true
 | .ro row=> .cells (Vec.ofList row) 0 n none false false
 | .mapx kn=> .mapx kn []
def Sh.isRo:Sh→Bool
 | .ro _=>true
 | _=>false
def zmJ:List Sh→Nat→T Obj→T Obj
 | [], _,t=>t
 | s::l,n,t=>zmJ l (Nat.succ n) (t.set n (s.obj n))
def zas (k:Nat) (l:List Sh):Heap:=⟨zmJ l 1 (T.set .leaf 0 (.gs k)),Nat.succ l.length,.leaf⟩
def jOf (l:List (Nat×Nat)):J:=fun n=>match n with|0=>none|k+1=>(l[k]?).map fun b=>⟨b.1,b.2,0,none⟩
theorem zmI: ∀(l:List Sh) (n:Nat) (t:T Obj) (i:Nat),(zmJ l n t).get i=if n≤i∧i<n+l.length then (l[i-n]?).map (·.obj i) else t.get i
 | [], n,t,i=>by
  unfold zmJ
  rw [if_neg (by simp)]
 | s::l,n,t,i=>by
  unfold zmJ
  rw [zmI l,T.get_set]
  by_cases h1:n+1≤i∧i<n+1+l.length
  ·rw [if_pos h1,if_pos (by simp only [List.length_cons];omega),show i-n=(i-(n+1))+1 by omega,List.getElem?_cons_succ]
  ·rw [if_neg h1]
   by_cases h2:i=n
   ·subst h2
    rw [if_pos rfl,if_pos (by simp only [List.length_cons];omega),Nat.sub_self]
    rfl
   ·rw [if_neg h2,if_neg (by simp only [List.length_cons];omega)]
def ShOk (ρ:Val) (j:J) (x:Cx) (b:Nat×Nat):Sh→Prop
 | .own row=>x.K b.1∧b.2=0∧ ∃(vals:List Value) (arr:Array Value) (e:TypeId),x.w.heap[b.1]? =some (.cells arr e (0,0))∧RL ρ j row vals∧ ∀(i:Nat) (y:Value),vals[i]? =some y→arr[i]? =some y
 | .ro row=> ¬x.K b.1∧ ∃(vals:List Value) (arr:Array Value) (e:TypeId) (fr:Nat×Nat),x.w.heap[b.1]? =some (.cells arr e fr)∧RL ρ j row vals∧b.2+row.length≤arr.size∧ ∀(i:Nat) (y:Value),vals[i]? =some y→arr[b.2+i]? =some y
 | .mapx kn=>x.K b.1∧b.2=0∧ ∃arr clock m0,x.w.heap[b.1]? =some (.map arr clock)∧(zdA arr∧Born arr clock)∧RX ρ j kn m0∧ ∀k o,(k,o)∈m0→zbm arr k=o
def ShsOk (ρ:Val) (j:J) (x:Cx):List (Nat×Nat)→List Sh→Prop
 | [], [] => True
 | b::bl,s::l=>ShOk ρ j x b s∧ShsOk ρ j x bl l
 | _,_=>False
def apart:List (Nat×Nat)→List Sh→Prop
 | b::bl,s::l=>(s.isRo=false→ ∀(i:Nat) (b':Nat×Nat) (s':Sh),bl[i]? =some b'→l[i]? =some s'→s'.isRo=false→b.1≠b'.1)∧apart bl l
 | _,_=>True
theorem ShsOk.get {ρ:Val} {j:J} {x:Cx}: ∀ {bl:List (Nat×Nat)} {l:List Sh},ShsOk ρ j x bl l→bl.length=l.length∧ ∀(i:Nat) (b:Nat×Nat) (s:Sh),bl[i]? =some b→l[i]? =some s→ShOk ρ j x b s
 | [], [], _=>⟨rfl,fun i b s h=>by cases h⟩
 | [], _::_,h=>h.elim
 | _::_,[],h=>h.elim
 | b::bl,s::l,h=>by
  obtain ⟨h1,h2⟩:=ShsOk.get h.2
  refine ⟨by simp [h1],fun i b' s' e1 e2=> ?_⟩
  cases i with
  | zero=>cases e1;cases e2;exact h.1
  | succ i=>exact h2 i b' s' (by simpa using e1) (by simpa using e2)
theorem apart.get: ∀ {bl:List (Nat×Nat)} {l:List Sh},apart bl l→ ∀(i i':Nat) (b b':Nat×Nat) (s s':Sh),i<i'→bl[i]? =some b→l[i]? =some s→bl[i']? =some b'→l[i']? =some s'→s.isRo=false→s'.isRo=false→b.1≠b'.1
 | [], l,_,i,i',b,b',s,s',_,h,_,_,_,_,_=>by cases h
 | b0::bl,[],_,i,i',b,b',s,s',_,_,h,_,_,_,_=>by cases h
 | b0::bl,s0::l,h,0,i'+1,b,b',s,s',_,h1,h2,h3,h4,h5,h6=>by
  cases h1;cases h2
  exact h.1 h5 i' b' s' (by simpa using h3) (by simpa using h4) h6
 | b0::bl,s0::l,h,i+1,i'+1,b,b',s,s',hlt,h1,h2,h3,h4,h5,h6=>
  apart.get h.2 i i' b b' s s' (by omega) (by simpa using h1) (by simpa using h2) (by simpa using h3) (by simpa using h4) h5 h6
theorem zdr {bl:List (Nat×Nat)} {n:Nat} {L:Loc} (h:jOf bl n=some L): ∃k b,n=k+1∧bl[k]? =some b∧L=⟨b.1,b.2,0,none⟩:=by
 cases n with
 | zero=>cases h
 | succ k=>
  have h:(bl[k]?).map (fun b=>(⟨b.1,b.2,0,none⟩:Loc))=some L:=h
  rw [Option.map_eq_some_iff] at h
  obtain ⟨b,h1,h2⟩:=h
  exact ⟨k,b,rfl,h1,h2.symm⟩
theorem zgK {ρ:Val} {x:Cx} {k:Nat} {bl:List (Nat×Nat)} {l:List Sh} (hK: ∀b,x.K b→b<x.w.heap.size) (ho:ShsOk ρ (jOf bl) x bl l) (ha:apart bl l) (hG:x.G k (jOf bl) x.w):Inv ρ x (jOf bl) (zas k l) x.w:=by
 obtain ⟨hlen,hok⟩:=ho.get
 have hget: ∀i,(zas k l).m.get i=if 1≤i∧i<1+l.length then (l[i-1]?).map (·.obj i) else if i=0 then some (.gs k) else none:=fun i=>by
  show (zmJ l 1 (T.set .leaf 0 (.gs k))).get i=_
  rw [zmI,T.get_set]
  rfl
 have hat: ∀(q:Nat) (b:Nat×Nat),bl[q]? =some b→ ∃s,l[q]? =some s∧(zas k l).m.get (q+1)=some (s.obj (q+1)):=fun q b hb=>by
  have hq:q<l.length:=by
   rw [←hlen]
   exact (List.getElem?_eq_some_iff.1 hb).1
  refine ⟨l[q],List.getElem?_eq_getElem hq,?_⟩
  rw [hget,if_pos (by omega),Nat.add_sub_cancel,List.getElem?_eq_getElem hq]
  rfl
 have hblk: ∀(q:Nat) (b:Nat×Nat) (s:Sh),bl[q]? =some b→l[q]? =some s→b.1<x.w.heap.size:=fun q b s hb hs=>by
  have:=hok q b s hb hs
  cases s with
  | own row=>obtain ⟨_,_,_,_,_,h,_⟩:=this;exact (Array.getElem?_eq_some_iff.1 h).1
  | ro row=>obtain ⟨_,_,_,_,_,h,_⟩:=this;exact (Array.getElem?_eq_some_iff.1 h).1
  | mapx kn=>obtain ⟨_,_,_,_,_,h,_⟩:=this;exact (Array.getElem?_eq_some_iff.1 h).1
 have hobj: ∀(q:Nat) (b:Nat×Nat) (s:Sh),bl[q]? =some b→l[q]? =some s→ObjR ρ (jOf bl) x x.w .leaf ⟨b.1,b.2,0,none⟩ (s.obj (q+1)):=fun q b s hb hs=>by
  have:=hok q b s hb hs
  cases s with
  | own row=>
   obtain ⟨h1,h2,vals,arr,e,h3,h4,h5⟩:=this
   refine ⟨rfl,by rw [if_pos rfl];exact .inr h1,fun _=>⟨arr,e,(0,0),h3,?_,⟨?_,fun hh=>by cases hh⟩,fun i hi=> ?_⟩⟩
   ·show b.2+(Vec.ofList row).n≤arr.size
    rw [Vec.n_ofList,h2,Nat.zero_add]
    have hl:=h4.length
    rcases Nat.eq_zero_or_pos row.length with h0|h0
    ·omega
    ·have h6:=h5 (row.length-1) _ (List.getElem?_eq_getElem (by omega))
     have:=(Array.getElem?_eq_some_iff.1 h6).1
     omega
   ·show b.2+0*0≤arr.size
    omega
   ·rw [Vec.n_ofList] at hi
    rw [Vec.get_ofList row i hi]
    obtain ⟨y,h6,h7⟩:=h4.get i _ (List.getElem?_eq_getElem hi)
    exact ⟨y,by show arr[b.2+i]? =_;rw [h2,Nat.zero_add];exact h5 i y h6,h7⟩
  | ro row=>
   obtain ⟨h1,vals,arr,e,fr,h3,h4,h6,h5⟩:=this
   refine ⟨rfl,?_,fun _=>⟨arr,e,fr,h3,?_,⟨?_,fun hh=>by cases hh⟩,fun i hi=> ?_⟩⟩
   ·rw [if_neg (by decide)]
    have:=(Array.getElem?_eq_some_iff.1 h3).1
    rintro (h|h)
    ·have:x.w.heap.size≤b.1:=h
     omega
    ·exact h1 h
   ·show b.2+(Vec.ofList row).n≤arr.size
    rw [Vec.n_ofList];exact h6
   ·show b.2+0*0≤arr.size
    omega
   ·rw [Vec.n_ofList] at hi
    rw [Vec.get_ofList row i hi]
    obtain ⟨y,h7,h8⟩:=h4.get i _ (List.getElem?_eq_getElem hi)
    exact ⟨y,h5 i y h7,h8⟩
  | mapx kn=>
   obtain ⟨h1,h2,arr,clock,m0,h3,h4,h5,h6⟩:=this
   obtain ⟨e1,e2⟩:=zg4 h5
   exact ⟨rfl,.inr h1,h2,arr,clock,arr,clock,m0,[],h3,h3,⟨h4.1,h4.2,e2 _⟩,by rw [e1];exact h5,rfl,h6,fun _=>rfl⟩
 refine ⟨Fr.refl x,fun n L h=> ?_,fun n L h _=> ?_,fun n o h=> ?_,fun n L h=> ?_,fun n m Ln Lm hne h1 h2 _ _ hb=> ?_,fun n v e g t sh ow h=> ?_,fun g y h=>(by cases h),fun n L v e g c sh h1 h2=> ?_,fun n L h _ how c e fr hc=> ?_,fun n L v e c sh h1 h2=> ?_,rfl,Nat.succ_pos _,fun o h=> ?_,?_⟩
 ·obtain ⟨q,b,rfl,hb,rfl⟩:=zdr h
  show q+1<l.length+1
  have:=(List.getElem?_eq_some_iff.1 hb).1
  omega
 ·obtain ⟨q,b,rfl,hb,rfl⟩:=zdr h
  obtain ⟨s,hs,_⟩:=hat q b hb
  exact hblk q b s hb hs
 ·show n<l.length+1
  rw [hget] at h
  split at h
  ·omega
  ·split at h
   ·omega
   ·cases h
 ·obtain ⟨q,b,rfl,hb,rfl⟩:=zdr h
  obtain ⟨s,hs,h1⟩:=hat q b hb
  exact ⟨_,h1,hobj q b s hb hs⟩
 ·obtain ⟨q,b,rfl,hq,rfl⟩:=zdr h1
  obtain ⟨q',b',rfl,hq',rfl⟩:=zdr h2
  obtain ⟨s,hs,g1⟩:=hat q b hq
  obtain ⟨s',hs',g2⟩:=hat q' b' hq'
  have hb:b.1=b'.1:=hb
  have k1:=hok q b s hq hs
  have k2:=hok q' b' s' hq' hs'
  have hro: ∀ {s:Sh} {b:Nat×Nat},ShOk ρ (jOf bl) x b s→s.isRo=false→x.K b.1:=fun {s b} h h'=>by
   cases s with
   | own=>exact h.1
   | ro=>cases h'
   | mapx=>exact h.1
  cases hr:s.isRo with
  | false=>
   cases hr':s'.isRo with
   | false=>
    rcases Nat.lt_or_gt_of_ne (show q≠q' from fun e=>hne (by rw [e])) with hlt|hlt
    ·exact absurd hb (ha.get q q' b b' s s' hlt hq hs hq' hs' hr hr')
    ·exact absurd hb.symm (ha.get q' q b' b s' s hlt hq' hs' hq hs hr' hr)
   | true=>
    have:=hro k1 hr
    rw [hb] at this
    cases s' with
    | own=>cases hr'
    | ro=>exact absurd this k2.1
    | mapx=>cases hr'
  | true=>
   cases s with
   | own=>cases hr
   | mapx=>cases hr
   | ro row=>
    cases s' with
    | ro row'=>exact ⟨_,_,_,_,_,_,_,_,_,_,_,_,g1,g2,rfl,fun h=>by cases h⟩
    | own=>exact absurd (hb▸k2.1) k1.1
    | mapx=>exact absurd (hb▸k2.1) k1.1
 ·rw [hget] at h
  split at h
  ·rw [Option.map_eq_some_iff] at h
   obtain ⟨s,_,h⟩:=h
   cases s<;>cases h
  ·split at h<;>cases h
 ·obtain ⟨q,b,rfl,hb,rfl⟩:=zdr h1
  obtain ⟨s,hs,g1⟩:=hat q b hb
  rw [g1] at h2
  cases s<;>cases h2
  exact ⟨_,h1⟩
 ·obtain ⟨q,b,rfl,hb,rfl⟩:=zdr h
  obtain ⟨s,hs,_⟩:=hat q b hb
  have hlt:=hblk q b s hb hs
  have hKb:x.K b.1:=by
   rcases how with h|h
   ·have:x.w.heap.size≤b.1:=h
    omega
   ·exact h
  have k1:=hok q b s hb hs
  cases s with
  | own row=>obtain ⟨_,_,_,_,_,h3,_⟩:=k1;rw [h3] at hc;cases hc;rfl
  | ro row=>exact absurd hKb k1.1
  | mapx kn=>obtain ⟨_,_,_,_,_,h3,_⟩:=k1;rw [h3] at hc;cases hc
 ·obtain ⟨q,b,rfl,hb,rfl⟩:=zdr h1
  obtain ⟨s,hs,g1⟩:=hat q b hb
  rw [g1] at h2
  cases s<;>cases h2
  exact (hok q b _ hb hs).2.1
 ·rw [hget,if_neg (by omega),if_pos rfl] at h
  cases h
  exact ⟨k,rfl⟩
 ·have:(zas k l).gs=k:=by
   unfold Heap.gs
   rw [hget,if_neg (by omega),if_pos rfl]
  rw [this]
  exact hG
structure Mv (S:Nat→Prop) (w w':World):Prop where
 os:w'.os=w.os
 tape:w'.tape=w.tape
 output:w'.output=w.output
 size:w.heap.size≤w'.heap.size
 block: ∀k,k<w.heap.size→ ¬S k→w'.heap[k]? =w.heap[k]?
theorem Mv.refl (S:Nat→Prop) (w:World):Mv S w w:=⟨rfl,rfl,rfl,Nat.le_refl _,fun _ _ _=>rfl⟩
theorem Mv.trans {S:Nat→Prop} {a b c:World} (h:Mv S a b) (k:Mv S b c):Mv S a c:=
 ⟨k.os.trans h.os,k.tape.trans h.tape,k.output.trans h.output,Nat.le_trans h.size k.size,fun j hj h1=>(k.block j (Nat.lt_of_lt_of_le hj h.size) h1).trans (h.block j hj h1)⟩
theorem Mv.mono {S S':Nat→Prop} {a b:World} (h:Mv S a b) (hs: ∀k,S k→S' k):Mv S' a b:=⟨h.os,h.tape,h.output,h.size,fun j hj h1=>h.block j hj (fun h2=>h1 (hs j h2))⟩
theorem Mv.of_below {S:Nat→Prop} {w w':World} (h:Below w.heap.size w w'):Mv S w w':=⟨h.os,h.tape,h.output,h.size,fun k hk _=>h.block k hk⟩
structure Ent where
 f:FuncId
 args:List AV
 gs:Nat
 base:Nat
 nopq:Nat
 res:AV
 gs':Nat
def zh7:Nat→Heap→Heap
 | 0,H=>H
 | n+1,H=>zh7 n (H.alloc .opq)
def zJk (k:Nat) (H:Heap):Heap:=
 match H with
 | ⟨m,nx,gw⟩=>match m.set 0 (.gs k) with
  | .leaf=>⟨.leaf,nx,gw⟩
  | .node a b c=>⟨.node a b c,nx,gw⟩
def Ent.heap (e:Ent) (H:Heap):Heap:=
 match Nat.beq e.gs e.gs' with
 | true=>zh7 e.nopq H
 | false=>zJk e.gs' (zh7 e.nopq H)
def Ent.fits (e:Ent) (f:FuncId) (args:List AV) (H:Heap):Bool:=
 match Nat.beq f e.f with
 | false=>false
 | true=>match AV.beqL args e.args,Nat.beq H.gs e.gs with
  | true,true=>(match e.nopq with
   | 0=>true
   | _+1=>Nat.beq H.nx e.base)
  | _,_=>false
def zau:List Ent→FuncId→List AV→Heap→Option (List (AV×Heap))
 | [], _,_,_=>none
 | e::l,f,args,H=>match e.fits f args H with
  | true=>some [(e.res,e.heap H)]
  | false=>zau l f args H
def jq (j:J) (n:Nat) (qs:List Value):J:=fun k=>if n≤k∧k<n+qs.length then some ⟨0,0,0,some (qs.getD (k-n) undef)⟩ else j k
theorem zgI (j:J) (n:Nat):jq j n []=j:=by
 funext k
 unfold jq
 rw [if_neg (by simp)]
def zIT (P:Program) (ρ:Val) (x:Cx) (e:Ent):Prop:=
 Enters P e.f∧ ∀(j:J) (H:Heap) (w:World) (vals:List Value),Inv ρ x j H w→H.gs=e.gs→(e.nopq≠0→H.nx=e.base)→RL ρ j e.args vals→
  Calls P e.f vals.toArray w fun en w'=> ∃u qs,en= .returned u∧qs.length=e.nopq∧R ρ (jq j H.nx qs) e.res u∧x.G e.gs' (jq j H.nx qs) w'∧Mv (fun b=> ¬Mine j b∧x.own b) w w'
theorem zvx: ∀(n:Nat) (H:Heap),(zh7 n H).nx=H.nx+n∧(zh7 n H).gw=H.gw∧ ∀k,(zh7 n H).m.get k=if H.nx≤k∧k<H.nx+n then some .opq else H.m.get k
 | 0,H=>⟨rfl,rfl,fun k=>by rw [if_neg (by omega)];rfl⟩
 | n+1,H=>by
  obtain ⟨h1,h2,h3⟩:=zvx n (H.alloc .opq)
  rw [Heap.alloc_eq] at h1 h2 h3
  have h1:(zh7 n ⟨H.m.set H.nx .opq,H.nx+1,H.gw⟩).nx=H.nx+1+n:=h1
  refine ⟨?_,?_,fun k=> ?_⟩
  ·show (zh7 n (H.alloc .opq)).nx=_
   rw [Heap.alloc_eq,h1];omega
  ·show (zh7 n (H.alloc .opq)).gw=_
   rw [Heap.alloc_eq];exact h2
  ·show (zh7 n (H.alloc .opq)).m.get k=_
   rw [Heap.alloc_eq,h3]
   show (if H.nx+1≤k∧k<H.nx+1+n then some Obj.opq else (H.m.set H.nx .opq).get k)=_
   rw [T.get_set]
   by_cases h4:H.nx+1≤k∧k<H.nx+1+n
   ·rw [if_pos h4,if_pos (by omega)]
   ·rw [if_neg h4]
    by_cases h5:k=H.nx
    ·rw [if_pos h5,if_pos (by omega)]
    ·rw [if_neg h5,if_neg (by omega)]
theorem zC4 (k:Nat) (H:Heap):zJk k H=⟨H.m.set 0 (.gs k),H.nx,H.gw⟩:=by
 obtain ⟨m,nx,gw⟩:=H
 show (match m.set 0 (.gs k) with| .leaf=>(⟨.leaf,nx,gw⟩:Heap)| .node a b c=>⟨.node a b c,nx,gw⟩)=_
 cases m.set 0 (.gs k)<;>rfl
theorem Ent.heap_eq (e:Ent) (H:Heap) (hn:0<H.nx) (hg:H.gs=e.gs):(e.heap H).nx=H.nx+e.nopq∧(e.heap H).gw=H.gw∧(e.heap H).gs=e.gs'∧(∀k,0<k→(e.heap H).m.get k=if H.nx≤k∧k<H.nx+e.nopq then some .opq else H.m.get k)∧
  ((e.heap H).m.get 0=H.m.get 0∨(e.heap H).m.get 0=some (.gs e.gs')):=by
 obtain ⟨h1,h2,h3⟩:=zvx e.nopq H
 unfold Ent.heap
 split
 ·rename_i hb
  have hb:=zav hb
  refine ⟨h1,h2,?_,fun k _=>h3 k,.inl (by rw [h3,if_neg (by omega)])⟩
  unfold Heap.gs
  rw [h3,if_neg (by omega)]
  rw [←hb,←hg]
  rfl
 ·rw [zC4]
  refine ⟨h1,h2,?_,fun k hk=> ?_,.inr (by show ((zh7 e.nopq H).m.set 0 _).get 0=_;exact T.get_set_same _ _ _)⟩
  ·unfold Heap.gs
   rw [T.get_set_same]
  ·show ((zh7 e.nopq H).m.set 0 _).get k=_
   rw [T.get_set_ne _ _ (by omega),h3]
section
variable {P:Program} {ρ:Val} {x:Cx} {j:J} {H:Heap} {w w':World}
theorem zFg (h:Inv ρ x j H w) (qs:List Value):Sub j (jq j H.nx qs):=fun n L e=>by
 unfold jq
 rw [if_neg (by have:=h.dom n L e;omega)]
 exact e
theorem zee (qs:List Value) {n:Nat} {L:Loc} (h:jq j H.nx qs n=some L):(j n=some L)∨(H.nx≤n∧n<H.nx+qs.length∧L.q≠none):=by
 unfold jq at h
 split at h
 ·rename_i hc
  cases h
  exact .inr ⟨hc.1,hc.2,by simp⟩
 ·exact .inl h
theorem Inv.ent (h:Inv ρ x j H w) {e:Ent} {qs:List Value} (hg:H.gs=e.gs) (hl:qs.length=e.nopq) (hG:x.G e.gs' (jq j H.nx qs) w') (hm:Mv (fun b=> ¬Mine j b∧x.own b) w w'):
  Inv ρ x (jq j H.nx qs) (e.heap H) w'∧St j H (jq j H.nx qs) (e.heap H):=by
 obtain ⟨e1,e2,e3,e4,e5⟩:=e.heap_eq H h.nx0 hg
 have hsub:=zFg h qs
 have hold: ∀n L,j n=some L→(e.heap H).m.get n=H.m.get n:=fun n L hn=>by
  rw [e4 n (by have:=h.ne0 hn;omega),if_neg (by have:=h.dom n L hn;omega)]
 have hkeep: ∀n L,j n=some L→L.q=none→w'.heap[L.blk]? =w.heap[L.blk]? :=fun n L hn hq=>hm.block _ (h.blk n L hn hq) (fun hh=>hh.1 ⟨n,L,hn,hq,rfl⟩)
 refine ⟨⟨h.fr.then hm.os hm.output hm.tape hm.size (fun i hi ho=>hm.block i hi (fun hh=>ho hh.2)),fun n L hn=> ?_,fun n L hn hq=> ?_,fun n o hn=> ?_,fun n L hn=> ?_,fun n m Ln Lm hne h1 h2 q1 q2 hb=> ?_,fun n v es g t sh ow hn=> ?_,fun g y hy=> ?_,fun n L v es g c sh h1 h2=> ?_,fun n L hn hq ho c t fr hc=> ?_,fun n L v es c sh h1 h2=> ?_,?_,?_,fun o ho=> ?_,?_⟩,
  hsub,fun n L h1 h2=> ?_,fun n hp h1 h2=>⟨?_,by rw [e2]⟩,by rw [e1];omega⟩
 ·rw [e1]
  rcases zee qs hn with hn|⟨_,h2,_⟩
  ·have:=h.dom n L hn;omega
  ·omega
 ·rcases zee qs hn with hn|⟨_,_,h3⟩
  ·exact Nat.lt_of_lt_of_le (h.blk n L hn hq) hm.size
  ·exact absurd hq h3
 ·rw [e1]
  rcases Nat.eq_zero_or_pos n with h0|h0
  ·have:=h.nx0;omega
  ·rw [e4 n h0] at hn
   split at hn
   ·omega
   ·have:=h.used n o hn;omega
 ·rcases zee qs hn with hn|⟨h1,h2,h3⟩
  ·obtain ⟨o,h4,h5⟩:=h.obj n L hn
   refine ⟨o,by rw [hold n L hn];exact h4,?_⟩
   rw [e2]
   exact h5.grow hsub (fun hq=>hkeep n L hn hq)
  ·refine ⟨.opq,?_,h3⟩
   rw [e4 n (by have:=h.nx0;omega),if_pos ⟨h1,by omega⟩]
 ·rcases zee qs h1 with h1|⟨_,_,h3⟩
  ·rcases zee qs h2 with h2|⟨_,_,h3⟩
   ·obtain ⟨vn,en,gn,cn,sn,on,vm,em,gm,cm,sm,om,g1,g2,g3⟩:=h.sep n m Ln Lm hne h1 h2 q1 q2 hb
    exact ⟨vn,en,gn,cn,sn,on,vm,em,gm,cm,sm,om,by rw [hold n Ln h1];exact g1,by rw [hold m Lm h2];exact g2,by rw [e2];exact g3⟩
   ·exact absurd q2 h3
  ·exact absurd q1 h3
 ·rw [e1]
  rcases Nat.eq_zero_or_pos n with h0|h0
  ·subst h0
   rcases e5 with e5|e5
   ·rw [e5] at hn;obtain ⟨kk,hk⟩:=h.z0 _ hn;cases hk
   ·rw [e5] at hn;cases hn
  ·rw [e4 n h0] at hn
   split at hn
   ·cases hn
   ·have:=h.tim n v es g t sh ow hn;omega
 ·rw [e2] at hy;rw [e1];have:=h.gwt g y hy;omega
 ·rcases zee qs h1 with h1|⟨h3,h4,_⟩
  ·rw [hold n L h1] at h2
   obtain ⟨Lg,hLg⟩:=h.grp n L v es g c sh h1 h2
   exact ⟨Lg,hsub _ _ hLg⟩
  ·rw [e4 n (by have:=h.nx0;omega),if_pos ⟨h3,by omega⟩] at h2
   cases h2
 ·rcases zee qs hn with hn|⟨_,_,h3⟩
  ·rw [hkeep n L hn hq] at hc
   exact h.fz n L hn hq ho c t fr hc
  ·exact absurd hq h3
 ·rcases zee qs h1 with h1|⟨h3,h4,_⟩
  ·rw [hold n L h1] at h2
   exact h.off0 n L v es c sh h1 h2
  ·rw [e4 n (by have:=h.nx0;omega),if_pos ⟨h3,by omega⟩] at h2
   cases h2
 ·unfold jq
  rw [if_neg (by have:=h.nx0;omega)]
  exact h.n0
 ·rw [e1];have:=h.nx0;omega
 ·rcases e5 with e5|e5
  ·rw [e5] at ho;exact h.z0 o ho
  ·rw [e5] at ho;cases ho;exact ⟨_,rfl⟩
 ·rw [e3];exact hG
 ·rcases zee qs h1 with h1|⟨h3,_,_⟩
  ·rw [h1] at h2;cases h2
  ·exact h3
 ·rw [e4 n hp,if_neg (by omega)]
theorem zgP {l:List Ent} (h: ∀e∈l,zIT P ρ x e):zfY P ρ x (zau l):=by
 intro f args H r hr
 induction l with
 | nil=>cases hr
 | cons e l ih=>
  unfold zau at hr
  split at hr
  ·rename_i hf
   cases hr
   obtain ⟨h1,h2⟩:=h e (by simp)
   unfold Ent.fits at hf
   split at hf
   ·cases hf
   rename_i hff
   have hff:=zav hff
   subst hff
   split at hf
   case h_2=>cases hf
   rename_i ha hgs
   have ha:=AV.beqL_eq ha
   have hgs:=zav hgs
   subst ha
   refine ⟨h1,fun k hk j w vals hi hv=> ?_⟩
   have hk:Ob.den ρ (k e.res (e.heap H)):=hk
   refine Calls.mono (h2 j H w vals hi hgs (fun hn=> ?_) hv) fun en w' he=> ?_
   ·split at hf
    ·rename_i h0;exact absurd h0 hn
    ·exact zav hf
   ·obtain ⟨u,qs,rfl,g1,g2,g3,g4⟩:=he
    obtain ⟨g5,g6⟩:=hi.ent hgs g1 g3 g4
    exact ⟨u,rfl,e.res,e.heap H,_,g2,g5,g6,hk⟩
  ·exact ih (fun e' he'=>h e' (by simp [he'])) hr
end
structure Gho where
 fact:Nat→(Nat→Option Value)→(Nat→Prop)→World→Prop
 loc: ∀k q q' F w w',fact k q F w→(∀n v,q n=some v→q' n=some v)→(∀b,F b→w'.heap[b]? =w.heap[b]?)→w.heap.size≤w'.heap.size→fact k q' F w'
def opqs (j:J) (n:Nat):Option Value:=(j n).bind (·.q)
def Gho.G (g:Gho) (k:Nat) (j:J) (w:World):Prop:= ∃F:Nat→Prop,(∀b,F b→b<w.heap.size∧ ¬Mine j b)∧g.fact k (opqs j) F w
theorem zdo {j j':J} (h:Sub j j') {n:Nat} {v:Value} (hv:opqs j n=some v):opqs j' n=some v:=by
 unfold opqs at hv ⊢
 rw [Option.bind_eq_some_iff] at hv
 obtain ⟨L,h1,h2⟩:=hv
 rw [h n L h1]
 exact h2
def cxOf (w:World) (K:Nat→Prop) (g:Gho):Cx:=⟨w,K,g.G,fun k j j' w w' hG hs hle hb hn=>by
 obtain ⟨F,h1,h2⟩:=hG
 refine ⟨F,fun b hF=>⟨Nat.lt_of_lt_of_le (h1 b hF).1 hle,fun hm=> ?_⟩,g.loc _ _ _ _ _ _ h2 (fun n v hv=>zdo hs hv) (fun b hF=>hb b (h1 b hF).1 (h1 b hF).2) hle⟩
 rcases hn b hm with hm|hm
 ·exact (h1 b hF).2 hm
 ·have:=(h1 b hF).1;omega⟩
def Gho.none:Gho:=⟨fun _ _ _ _=>True,fun _ _ _ _ _ _ _ _ _ _=>trivial⟩
theorem zny {j:J} {n:Nat} {qs:List Value} {b:Nat} (hj: ∀k,n≤k→j k=none) (h:Mine (jq j n qs) b):Mine j b:=by
 obtain ⟨k,L,h1,h2,h3⟩:=h
 unfold jq at h1
 split at h1
 ·cases h1;cases h2
 ·exact ⟨k,L,h1,h2,h3⟩
theorem zEo {P:Program} {ρ:Val} {w0:World} {K:Nat→Prop} {g:Gho} {e:Ent} (he:Enters P e.f)
    (h: ∀(j:J) (w:World) (vals:List Value) (F:Nat→Prop) (n:Nat),RL ρ j e.args vals→(∀k,n≤k→j k=none)→(e.nopq≠0→n=e.base)→(∀b,F b→b<w.heap.size)→w0.heap.size≤w.heap.size→g.fact e.gs (opqs j) F w→(∀i,i<w0.heap.size→ ¬K i→w.heap[i]? =w0.heap[i]?)→
      Calls P e.f vals.toArray w fun en w'=> ∃u qs F',en= .returned u∧qs.length=e.nopq∧R ρ (jq j n qs) e.res u∧g.fact e.gs' (opqs (jq j n qs)) F' w'∧(∀b,F' b→b<w'.heap.size∧(F b∨w.heap.size≤b))∧Mv (fun b=>F b∧(w0.heap.size≤b∨K b)) w w'):
    zIT P ρ (cxOf w0 K g) e:=by
  refine ⟨he,fun j H w vals hi hgs hb hv=> ?_⟩
  have hG:=hi.gho
  rw [hgs] at hG
  obtain ⟨F,h1,h2⟩:=hG
  have hnone: ∀k,H.nx≤k→j k= .none:=fun k hk=>by
    cases hjk:j k with
    | none=>rfl
    | some L=>have:=hi.dom k L hjk;omega
  refine Calls.mono (h j w vals F H.nx hv hnone hb (fun b hF=>(h1 b hF).1) hi.fr.size h2 hi.fr.old) fun en w' he'=> ?_
  obtain ⟨u,qs,F',rfl,g1,g2,g3,g4,g5⟩:=he'
  refine ⟨u,qs,rfl,g1,g2,⟨F',fun b hF'=>⟨(g4 b hF').1,fun hm=> ?_⟩,g3⟩,g5.mono fun b hb=>⟨(h1 b hb.1).2,hb.2⟩⟩
  have hm:=zny hnone hm
  rcases (g4 b hF').2 with hF|hF
  · exact (h1 b hF).2 hm
  · obtain ⟨k,L,k1,k2,k3⟩:=hm
    have:=hi.blk k L k1 k2
    omega
end Go.Dw
namespace Go.Dw
open Go.RowKit
def zH2:Loc:=⟨0,0,0,none⟩
def lcOf (j:J) (n:Nat):Loc:=(j n).getD zH2
mutual
def AV.exact:AV→Bool
 | .emp| .slu _| .sla=>false
 | .sl _ _ _ (.upto _)=>true
 | .func _ a b=>match AV.exactL a with|true=>AV.exactL b|false=>false
 | .iface _ v=>AV.exact v
 | .agg l=>AV.exactL l
 | .tup l=>AV.exactL l
 | _=>true
def AV.exactL:List AV→Bool
 | [] => true
 | a::l=>match AV.exact a with|true=>AV.exactL l|false=>false
end
mutual
def AV.val (ρ:Val) (lc:Nat→Loc):AV→Value
 | .bool b=> .bool (b.den ρ)
 | .int k n=> .int k (n.den ρ)
 | .str s=> .string ⟨(s.map UInt8.ofNat).toArray⟩
 | .nilp=> .pointer none
 | .ptr n o=> .pointer (some ⟨(lc n).blk,(lc n).off+o,none⟩)
 | .nils=> .slice none 0 0
 | .sl n o len cap=> .slice (some ⟨(lc n).blk,(lc n).off+o,none⟩) len (zkF (lc n) cap)
 | .emp| .slu _| .sla=>undef
 | .nilm=> .map none
 | .map n=> .map (some (lc n).blk)
 | .func f first cap=> .func (.func f) (AV.valL ρ lc first).toArray (AV.valL ρ lc cap).toArray
 | .nilf=> .nilFunc
 | .nili=> .nilIface
 | .iface t x=> .iface t (AV.val ρ lc x)
 | .agg l=> .agg (AV.valL ρ lc l).toArray
 | .tup l=> .tuple (AV.valL ρ lc l).toArray
 | .cst i _=>ρ.v i
 | .opq n _=>(lc n).q.getD undef
 | .nun _ _=>undef
 | .junk=>undef
 | .sx i _ _ _=>ρ.v i
def AV.valL (ρ:Val) (lc:Nat→Loc):List AV→List Value
 | [] => []
 | a::l=>AV.val ρ lc a::AV.valL ρ lc l
end
theorem zag {j:J} {n:Nat} {L:Loc} (h:j n=some L):lcOf j n=L:=by unfold lcOf;rw [h];rfl
mutual
theorem R_val {ρ:Val} {j:J}: ∀ {a:AV} {v:Value},a.exact=true→R ρ j a v→v=a.val ρ (lcOf j)
 | .bool _,_,_,r=>r
 | .int _ _,_,_,r=>r
 | .str _,_,_,r=>r.2
 | .nilp,_,_,r=>r
 | .ptr _ _,_,_,r=>by obtain ⟨L,e,rfl⟩:=r;unfold AV.val;rw [zag e]
 | .nils,_,_,r=>r
 | .sl _ _ _ _,_,_,r=>by obtain ⟨L,e,_,rfl⟩:=r;unfold AV.val;rw [zag e]
 | .emp,_,h,_=>by cases h
 | .slu _,_,h,_=>by cases h
 | .sla,_,h,_=>by cases h
 | .nilm,_,_,r=>r
 | .map _,_,_,r=>by obtain ⟨L,e,rfl⟩:=r;unfold AV.val;rw [zag e]
 | .func f a b,_,h,r=>by
  obtain ⟨l,m,rfl,h1,h2⟩:=r
  unfold AV.exact at h
  split at h
  ·rename_i ha;unfold AV.val;rw [RL_val ha h1,RL_val h h2]
  ·cases h
 | .nilf,_,_,r=>r
 | .nili,_,_,r=>r
 | .iface t x,_,h,r=>by obtain ⟨y,rfl,h1⟩:=r;unfold AV.exact at h;unfold AV.val;rw [R_val h h1]
 | .agg l,_,h,r=>by obtain ⟨m,rfl,h1⟩:=r;unfold AV.exact at h;unfold AV.val;rw [RL_val h h1]
 | .tup l,_,h,r=>by obtain ⟨m,rfl,h1⟩:=r;unfold AV.exact at h;unfold AV.val;rw [RL_val h h1]
 | .cst _ _,_,_,r=>r.1
 | .opq _ _,_,_,r=>by obtain ⟨⟨L,e,h1⟩,_⟩:=r;unfold AV.val;rw [zag e,h1];rfl
 | .nun _ _,_,_,r=>r.1
 | .junk,_,_,r=>r.elim
 | .sx _ _ _ _,_,_,r=>r.1
theorem RL_val {ρ:Val} {j:J}: ∀ {l:List AV} {m:List Value},AV.exactL l=true→RL ρ j l m→m=AV.valL ρ (lcOf j) l
 | [], _,_,r=>r
 | a::l,_,h,r=>by
  obtain ⟨v,m,rfl,h1,h2⟩:=r
  unfold AV.exactL at h
  split at h
  ·rename_i ha;unfold AV.valL;rw [R_val ha h1,RL_val h h2]
  ·cases h
end
mutual
def AV.small:AV→Bool
 | .bool b=>b.small
 | .func _ a b=>match AV.smallL a with|true=>AV.smallL b|false=>false
 | .iface _ v=>AV.small v
 | .agg l=>AV.smallL l
 | .tup l=>AV.smallL l
 | .nun c _=>c.small
 | _=>true
def AV.smallL:List AV→Bool
 | [] => true
 | a::l=>match AV.small a with|true=>AV.smallL l|false=>false
end
theorem zwv {ρ:Val} {j:J} (m:Nat→Bool) {sz:Nat} {b:Option Addr} {len:Nat}: ∀ {l:List (SE×Nat)},(SXs (ρ.mark m) j sz b len l↔SXs ρ j sz b len l)
 | [] => Iff.rfl
 | p::l=>by unfold SXs;rw [zwv m (l:=l),SE.den_mark]
mutual
theorem R_mark {ρ:Val} {j:J} (m:Nat→Bool): ∀ {a:AV} {v:Value},a.small=true→(R (ρ.mark m) j a v↔R ρ j a v)
 | .bool b,v,h=>by show v=_↔v=_;rw [SB.den_mark ρ m b h]
 | .int k n,v,_=>by show v=_↔v=_;rw [SE.den_mark]
 | .str _,_,_=>Iff.rfl
 | .nilp,_,_=>Iff.rfl
 | .ptr _ _,_,_=>Iff.rfl
 | .nils,_,_=>Iff.rfl
 | .sl _ _ _ _,_,_=>Iff.rfl
 | .emp,_,_=>Iff.rfl
 | .slu n,_,_=>by simp only [R,SE.den_mark]
 | .sla,_,_=>Iff.rfl
 | .nilm,_,_=>Iff.rfl
 | .map _,_,_=>Iff.rfl
 | .func f a b,v,h=>by
  unfold AV.small at h
  split at h
  ·rename_i ha
   constructor
   ·rintro ⟨l,k,rfl,h1,h2⟩;exact ⟨l,k,rfl,(RL_mark m ha).1 h1,(RL_mark m h).1 h2⟩
   ·rintro ⟨l,k,rfl,h1,h2⟩;exact ⟨l,k,rfl,(RL_mark m ha).2 h1,(RL_mark m h).2 h2⟩
  ·cases h
 | .nilf,_,_=>Iff.rfl
 | .nili,_,_=>Iff.rfl
 | .iface t x,v,h=>by
  unfold AV.small at h
  constructor
  ·rintro ⟨y,rfl,h1⟩;exact ⟨y,rfl,(R_mark m h).1 h1⟩
  ·rintro ⟨y,rfl,h1⟩;exact ⟨y,rfl,(R_mark m h).2 h1⟩
 | .agg l,v,h=>by
  unfold AV.small at h
  constructor
  ·rintro ⟨y,rfl,h1⟩;exact ⟨y,rfl,(RL_mark m h).1 h1⟩
  ·rintro ⟨y,rfl,h1⟩;exact ⟨y,rfl,(RL_mark m h).2 h1⟩
 | .tup l,v,h=>by
  unfold AV.small at h
  constructor
  ·rintro ⟨y,rfl,h1⟩;exact ⟨y,rfl,(RL_mark m h).1 h1⟩
  ·rintro ⟨y,rfl,h1⟩;exact ⟨y,rfl,(RL_mark m h).2 h1⟩
 | .cst i l,v,_=>by
  show (v=ρ.v i∧_∧_)↔(v=ρ.v i∧_∧_)
  simp only [SE.den_mark]
 | .opq _ _,_,_=>by simp only [R,SE.den_mark]
 | .junk,_,_=>Iff.rfl
 | .sx i n sz l,v,_=>by
  show (v=ρ.v i∧_)↔(v=ρ.v i∧_)
  simp only [SE.den_mark,zwv]
 | .nun c w,v,h=>by show (v=undef∧_=_)↔(v=undef∧_=_);rw [SB.den_mark ρ m c h]
theorem RL_mark {ρ:Val} {j:J} (m:Nat→Bool): ∀ {l:List AV} {v:List Value},AV.smallL l=true→(RL (ρ.mark m) j l v↔RL ρ j l v)
 | [], _,_=>Iff.rfl
 | a::l,v,h=>by
  unfold AV.smallL at h
  split at h
  ·rename_i ha
   constructor
   ·rintro ⟨y,k,rfl,h1,h2⟩;exact ⟨y,k,rfl,(R_mark m ha).1 h1,(RL_mark m h).1 h2⟩
   ·rintro ⟨y,k,rfl,h1,h2⟩;exact ⟨y,k,rfl,(R_mark m ha).2 h1,(RL_mark m h).2 h2⟩
  ·cases h
end
def zJQ:Option AV→Bool
 | none=>true
 | some a=>a.small
def zgC:List (AV×Option AV)→Bool
 | [] => true
 | e::l=>match e.1.small,zJQ e.2 with|true,true=>zgC l|_,_=>false
theorem zob {ρ:Val} {j:J} (m:Nat→Bool): ∀ {l:List (AV×Option AV)} {v:List (Int×Option Value)},zgC l=true→(RX (ρ.mark m) j l v↔RX ρ j l v)
 | [], _,_=>Iff.rfl
 | e::l,v,h=>by
  unfold zgC at h
  split at h
  ·rename_i h1 h2
   have ho: ∀o,RO (ρ.mark m) j e.2 o↔RO ρ j e.2 o:=fun o=>by
    cases he:e.2 with
    | none=>exact Iff.rfl
    | some a=>
     rw [he] at h2
     constructor
     ·rintro ⟨y,rfl,hy⟩;exact ⟨y,rfl,(R_mark m h2).1 hy⟩
     ·rintro ⟨y,rfl,hy⟩;exact ⟨y,rfl,(R_mark m h2).2 hy⟩
   constructor
   ·rintro ⟨x,o,k,rfl,g1,g2,g3⟩;exact ⟨x,o,k,rfl,(R_mark m h1).1 g1,(ho o).1 g2,(zob m h).1 g3⟩
   ·rintro ⟨x,o,k,rfl,g1,g2,g3⟩;exact ⟨x,o,k,rfl,(R_mark m h1).2 g1,(ho o).2 g2,(zob m h).2 g3⟩
  ·cases h
def Sh.small:Sh→Bool
 | .own row=>AV.smallL row
 | .ro row=>AV.smallL row
 | .mapx kn=>zgC kn
def zai:List Sh→Bool
 | [] => true
 | s::l=>match s.small with|true=>zai l|false=>false
theorem zdT {ρ:Val} {j:J} {x:Cx} (m:Nat→Bool): ∀ {bl:List (Nat×Nat)} {l:List Sh},zai l=true→ShsOk ρ j x bl l→ShsOk (ρ.mark m) j x bl l
 | [], [], _,_=>trivial
 | [], _::_,_,h=>h.elim
 | _::_,[],_,h=>h.elim
 | b::bl,s::l,hs,h=>by
  unfold zai at hs
  split at hs
  ·rename_i h0
   refine ⟨?_,zdT m hs h.2⟩
   have h1:=h.1
   cases s with
   | own row=>obtain ⟨a1,a2,vals,arr,e,a3,a4,a5⟩:=h1;exact ⟨a1,a2,vals,arr,e,a3,(RL_mark m h0).2 a4,a5⟩
   | ro row=>obtain ⟨a1,vals,arr,e,fr,a3,a4,a5,a6⟩:=h1;exact ⟨a1,vals,arr,e,fr,a3,(RL_mark m h0).2 a4,a5,a6⟩
   | mapx kn=>obtain ⟨a1,a2,arr,clock,m0,a3,a4,a5,a6⟩:=h1;exact ⟨a1,a2,arr,clock,m0,a3,a4,(zob m h0).2 a5,a6⟩
  ·cases hs
theorem zr2 {ρ:Val} (m:Nat→Bool) {a:AV} {v:Value} {j:J} (hs:a.small=true) (hx:a.exact=true) (h:R (ρ.mark m) j a v):v=a.val ρ (lcOf j):=R_val hx ((R_mark m hs).1 h)
def zaQ (P:Program) (ρ:Val) (w0:World) (K:Nat→Prop) (g:Gho) (e:Ent):Prop:=
 Enters P e.f∧ ∀(j:J) (w:World) (vals:List Value) (F:Nat→Prop) (n:Nat),RL ρ j e.args vals→(∀k,n≤k→j k=none)→(e.nopq≠0→n=e.base)→(∀b,F b→b<w.heap.size)→w0.heap.size≤w.heap.size→g.fact e.gs (opqs j) F w→(∀i,i<w0.heap.size→ ¬K i→w.heap[i]? =w0.heap[i]?)→
   Calls P e.f vals.toArray w fun en w'=> ∃u qs F',en= .returned u∧qs.length=e.nopq∧R ρ (jq j n qs) e.res u∧g.fact e.gs' (opqs (jq j n qs)) F' w'∧(∀b,F' b→b<w'.heap.size∧(F b∨w.heap.size≤b))∧Mv (fun b=>F b∧(w0.heap.size≤b∨K b)) w w'
def zmO (P:Program) (ρ:Val) (w0:World) (K:Nat→Prop) (g:Gho):List Ent→Prop
 | [] => True
 | e::l=>zaQ P ρ w0 K g e∧zmO P ρ w0 K g l
def zaf:List Ent→Bool
 | [] => true
 | e::l=>match AV.smallL e.args,e.res.small with|true,true=>zaf l|_,_=>false
theorem zdf {P:Program} {ρ:Val} {w0:World} {K:Nat→Prop} {g:Gho} (m:Nat→Bool): ∀ {l:List Ent},zaf l=true→zmO P ρ w0 K g l→ ∀e∈l,zIT P (ρ.mark m) (cxOf w0 K g) e
 | [], _,_,e,h=>by cases h
 | e0::l,hs,ho,e,h=>by
  unfold zaf at hs
  split at hs
  case h_2=>cases hs
  rename_i h1 h2
  rcases List.mem_cons.1 h with rfl|h
  ·refine zEo ho.1.1 fun j w vals F n hv hn hb hF hsz hf hold=> ?_
   refine Calls.mono (ho.1.2 j w vals F n ((RL_mark m h1).1 hv) hn hb hF hsz hf hold) fun en w' he=> ?_
   obtain ⟨u,qs,F',e1,e2,e3,e4⟩:=he
   exact ⟨u,qs,F',e1,e2,(R_mark m h2).2 e3,e4⟩
  ·exact zdf m hs ho.2 e h
theorem zgO {P:Program} {ρ:Val} {w0:World} {K:Nat→Prop} {g:Gho} {f:FuncId} {args:List AV} {gs base:Nat} {res:AV} (he:Enters P f)
  (h: ∀(j:J) (w:World) (vals:List Value) (F:Nat→Prop),RL ρ j args vals→g.fact gs (opqs j) F w→Calls P f vals.toArray w fun en w'=> ∃u,en= .returned u∧R ρ j res u∧Below w.heap.size w w'):
  zaQ P ρ w0 K g ⟨f,args,gs,base,0,res,gs⟩:=by
 refine ⟨he,fun j w vals F n hv hn _ hF hsz hfact _=> ?_⟩
 refine Calls.mono (h j w vals F hv hfact) fun en w' he'=> ?_
 obtain ⟨u,rfl,h1,h2⟩:=he'
 refine ⟨u,[],F,rfl,rfl,by rw [zgI];exact h1,?_,fun b hb=>⟨Nat.lt_of_lt_of_le (hF b hb) h2.size,.inl hb⟩,Mv.of_below h2⟩
 rw [zgI]
 exact g.loc _ _ _ _ _ _ hfact (fun _ _ h=>h) (fun b hb=>h2.block b (hF b hb)) h2.size
theorem zrt {P:Program} {ρ:Val} {w0:World} {K:Nat→Prop} {g:Gho} {f:FuncId} {args:List AV} {gs base gs':Nat} {res:AV} (he:Enters P f)
  (h: ∀(j:J) (w:World) (vals:List Value) (F:Nat→Prop),RL ρ j args vals→g.fact gs (opqs j) F w→Calls P f vals.toArray w fun en w'=> ∃u,en= .returned u∧R ρ j res u∧g.fact gs' (opqs j) F w'∧Mv (fun b=>F b∧K b) w w'):
  zaQ P ρ w0 K g ⟨f,args,gs,base,0,res,gs'⟩:=by
 refine ⟨he,fun j w vals F n hv hn _ hF hsz hfact _=> ?_⟩
 refine Calls.mono (h j w vals F hv hfact) fun en w' he'=> ?_
 obtain ⟨u,rfl,h1,h2,h3⟩:=he'
 refine ⟨u,[],F,rfl,rfl,by rw [zgI];exact h1,by rw [zgI];exact h2,fun b hb=>⟨Nat.lt_of_lt_of_le (hF b hb) h3.size,.inl hb⟩,h3.mono fun b hb=>⟨hb.1,.inr hb.2⟩⟩
def Row (w:World) (L:Loc) (vals:List Value):Prop:= ∃arr e fr,w.heap[L.blk]? =some (.cells arr e fr)∧ ∀(i:Nat) (y:Value),vals[i]? =some y→arr[L.off+i]? =some y
def Own (w:World) (b:Nat) (vals:List Value):Prop:= ∃(arr:Array Value) (e:TypeId),w.heap[b]? =some (.cells arr e (0,0))∧ ∀(i:Nat) (y:Value),vals[i]? =some y→arr[i]? =some y
def zdH:List (Nat×List AV)→Bool
 | [] => true
 | r::l=>match AV.exactL r.2,AV.smallL r.2 with|true,true=>zdH l|_,_=>false
def zio:List (AV×Option AV)→Bool
 | [] => true
 | e::l=>match e.1.exact,(match e.2 with|none=>true|some a=>a.exact) with|true,true=>zio l|_,_=>false
def zdM:List (Nat×List (AV×Option AV))→Bool
 | [] => true
 | r::l=>match zio r.2,zgC r.2 with|true,true=>zdM l|_,_=>false
def zal:List Leaf→Bool
 | [] => true
 | l::r=>match l.v.exact,l.v.small,zdH l.rows,zdM l.maps with|true,true,true,true=>zal r|_,_,_,_=>false
def intOf:Value→Int
 | .int _ n=>n
 | _=>0
def zgB (ρ:Val) (lc:Nat→Loc):List (AV×Option AV)→List (Int×Option Value)
 | [] => []
 | e::l=>(intOf (e.1.val ρ lc),e.2.map (AV.val ρ lc))::zgB ρ lc l
theorem zF8 {ρ:Val} {j:J}: ∀ {l:List (AV×Option AV)} {m:List (Int×Option Value)},zio l=true→RX ρ j l m→m=zgB ρ (lcOf j) l
 | [], _,_,r=>r
 | e::l,_,h,r=>by
  obtain ⟨x,o,k,rfl,g1,g2,g3⟩:=r
  unfold zio at h
  split at h
  case h_2=>cases h
  rename_i h1 h2
  unfold zgB
  rw [zF8 h g3,←R_val h1 g1]
  cases he:e.2 with
  | none=>rw [he] at g2;have g2:o=none:=g2;rw [g2];rfl
  | some a=>
   rw [he] at g2 h2
   obtain ⟨v,rfl,g4⟩:=g2
   rw [R_val h2 g4];rfl
def zww (ρ:Val) (j:J) (K:Nat→Prop) (w0 w:World):List (Nat×List AV)→Prop
 | [] => True
 | r::l=>(∀L,j r.1=some L→Row w L (AV.valL ρ (lcOf j) r.2)∧((w0.heap.size≤L.blk∨K L.blk)→L.off=0→Own w L.blk (AV.valL ρ (lcOf j) r.2)))∧zww ρ j K w0 w l
def zCz (ρ:Val) (j:J) (w0 w:World):List (Nat×List (AV×Option AV))→Prop
 | [] => True
 | r::l=>(∀L,j r.1=some L→ ∃arr clock arr0 clock0,w.heap[L.blk]? =some (.map arr clock)∧w0.heap[L.blk]? =some (.map arr0 clock0)∧(zdA arr∧Born arr clock)∧ ∀k,zbm arr k=mlog (zbm arr0) (zgB ρ (lcOf j) r.2) k)∧zCz ρ j w0 w l
theorem zce: ∀ {ls:List Leaf} {i:Nat} {l:Leaf},zal ls=true→ls[i]? =some l→l.v.exact=true∧l.v.small=true∧zdH l.rows=true∧zdM l.maps=true
 | [], _,_,_,h=>by cases h
 | x::r,i,l,hx,h=>by
  unfold zal at hx
  split at hx
  case h_2=>cases hx
  rename_i h1 h2 h3 h4
  cases i with
  | zero=>cases h;exact ⟨h1,h2,h3,h4⟩
  | succ i=>exact zce hx (by simpa using h)
theorem zpi {ρ:Val} {m:Nat→Bool} {j:J} {x:Cx} {K:Nat→Prop} {H:Heap} {w:World} (hxw: ∀b,x.own b↔(x.w.heap.size≤b∨K b)) (hi:Inv (ρ.mark m) x j H w): ∀ {rows:List (Nat×List AV)},zdH rows=true→zcw H rows=true→zww ρ j K x.w w rows
 | [], _,_=>trivial
 | r::l,hx,ha=>by
  unfold zdH at hx
  split at hx
  case h_2=>cases hx
  rename_i h1 h2
  unfold zcw at ha
  split at ha
  case h_2=>cases ha
  rename_i h3 _
  refine ⟨fun L hL=> ?_,zpi hxw hi hx ha⟩
  obtain ⟨vals,arr,e,fr,g1,g2,g3,_,g5⟩:=hi.rowOut hL h3
  have hv:=RL_val h1 ((RL_mark m h2).1 g2)
  rw [hv] at g3
  refine ⟨⟨arr,e,fr,g1,g3⟩,fun ho h0=> ?_⟩
  have:=g5 ((hxw _).2 ho)
  subst this
  exact ⟨arr,e,g1,fun i y hy=>by have:=g3 i y hy;rwa [h0,Nat.zero_add] at this⟩
theorem zqP {ρ:Val} {m:Nat→Bool} {j:J} {x:Cx} {H:Heap} {w:World} (hi:Inv (ρ.mark m) x j H w): ∀ {maps:List (Nat×List (AV×Option AV))},zdM maps=true→zfR H maps=true→zCz ρ j x.w w maps
 | [], _,_=>trivial
 | r::l,hx,ha=>by
  unfold zdM at hx
  split at hx
  case h_2=>cases hx
  rename_i h1 h2
  unfold zfR at ha
  split at ha
  case h_2=>cases ha
  rename_i h3
  refine ⟨fun L hL=> ?_,zqP hi hx ha⟩
  obtain ⟨arr,clock,arr0,clock0,m1,g1,g2,g3,g4,g5⟩:=hi.mapOut hL h3
  have hv:=zF8 h1 ((zob m h2).1 g4)
  rw [hv] at g5
  exact ⟨arr,clock,arr0,clock0,g1,g2,g3,g5⟩
mutual
def AV.names:AV→List Nat
 | .ptr n _=> [n]
 | .sl n _ _ _=> [n]
 | .map n=> [n]
 | .opq n _=> [n]
 | .func _ a b=>AV.namesL a++AV.namesL b
 | .iface _ v=>AV.names v
 | .agg l=>AV.namesL l
 | .tup l=>AV.namesL l
 | _=> []
def AV.namesL:List AV→List Nat
 | [] => []
 | a::l=>AV.names a++AV.namesL l
end
mutual
theorem names_some {ρ:Val} {j:J}: ∀ {a:AV} {v:Value},R ρ j a v→ ∀n∈a.names,j n=some (lcOf j n)
 | .bool _,_,_,n,h=>by cases h
 | .int _ _,_,_,n,h=>by cases h
 | .str _,_,_,n,h=>by cases h
 | .nilp,_,_,n,h=>by cases h
 | .ptr m o,_,r,n,h=>by
  obtain ⟨L,e,_⟩:=r
  have h:n∈ [m]:=h
  rw [List.mem_singleton] at h;subst h;rw [zag e];exact e
 | .nils,_,_,n,h=>by cases h
 | .sl m _ _ _,_,r,n,h=>by
  obtain ⟨L,e,_⟩:=r
  have h:n∈ [m]:=h
  rw [List.mem_singleton] at h;subst h;rw [zag e];exact e
 | .emp,_,_,n,h=>by cases h
 | .slu _,_,_,n,h=>by cases h
 | .sla,_,_,n,h=>by cases h
 | .nilm,_,_,n,h=>by cases h
 | .map m,_,r,n,h=>by
  obtain ⟨L,e,_⟩:=r
  have h:n∈ [m]:=h
  rw [List.mem_singleton] at h;subst h;rw [zag e];exact e
 | .func f a b,_,r,n,h=>by
  obtain ⟨l,m,_,h1,h2⟩:=r
  have h:n∈AV.namesL a++AV.namesL b:=h
  rcases List.mem_append.1 h with h|h
  ·exact namesL_some h1 n h
  ·exact namesL_some h2 n h
 | .nilf,_,_,n,h=>by cases h
 | .nili,_,_,n,h=>by cases h
 | .iface t x,_,r,n,h=>by obtain ⟨y,_,h1⟩:=r;exact names_some h1 n h
 | .agg l,_,r,n,h=>by obtain ⟨y,_,h1⟩:=r;exact namesL_some h1 n h
 | .tup l,_,r,n,h=>by obtain ⟨y,_,h1⟩:=r;exact namesL_some h1 n h
 | .cst _ _,_,_,n,h=>by cases h
 | .opq m _,_,r,n,h=>by
  obtain ⟨⟨L,e,_⟩,_⟩:=r
  have h:n∈ [m]:=h
  rw [List.mem_singleton] at h;subst h;rw [zag e];exact e
 | .nun _ _,_,_,n,h=>by cases h
 | .junk,_,_,n,h=>by cases h
 | .sx _ _ _ _,_,_,n,h=>by cases h
theorem namesL_some {ρ:Val} {j:J}: ∀ {l:List AV} {m:List Value},RL ρ j l m→ ∀n∈AV.namesL l,j n=some (lcOf j n)
 | [], _,_,n,h=>by cases h
 | a::l,_,r,n,h=>by
  obtain ⟨v,m,_,h1,h2⟩:=r
  have h:n∈AV.names a++AV.namesL l:=h
  rcases List.mem_append.1 h with h|h
  ·exact names_some h1 n h
  ·exact namesL_some h2 n h
end
def zoa (j:J):List (Nat×List AV)→Prop
 | [] => True
 | r::l=>(∀L,j r.1=some L→ ∀n∈AV.namesL r.2,j n=some (lcOf j n))∧zoa j l
theorem zja {ρ:Val} {j:J} {x:Cx} {H:Heap} {w:World} (hi:Inv ρ x j H w): ∀ {rows:List (Nat×List AV)},zcw H rows=true→zoa j rows
 | [], _=>trivial
 | r::l,ha=>by
  unfold zcw at ha
  split at ha
  case h_2=>cases ha
  rename_i h3 _
  refine ⟨fun L hL=> ?_,zja hi ha⟩
  obtain ⟨vals,arr,e,fr,g1,g2,_⟩:=hi.rowOut hL h3
  exact namesL_some g2
theorem zch {H:Heap}: ∀ {l:List (Nat×List AV)},zcw H l=true→ ∀ {r:Nat×List AV},r∈l→zpk H r.1 r.2=true
 | [], _,_,h=>by cases h
 | x::l,ha,r,h=>by
  unfold zcw at ha
  split at ha
  case h_2=>cases ha
  rename_i h1 _
  rcases List.mem_cons.1 h with rfl|h
  ·exact h1
  ·exact zch ha h
theorem zkh {H:Heap}: ∀ {l:List (Nat×List (AV×Option AV))},zfR H l=true→ ∀ {r:Nat×List (AV×Option AV)},r∈l→zxM H r.1 r.2=true
 | [], _,_,h=>by cases h
 | x::l,ha,r,h=>by
  unfold zfR at ha
  split at ha
  case h_2=>cases ha
  rename_i h1
  rcases List.mem_cons.1 h with rfl|h
  ·exact h1
  ·exact zkh ha h
structure zod (ρ:Val) (w0:World) (K:Nat→Prop) (g:Gho) (bl:List (Nat×Nat)) (l:Leaf) (e:Ending) (w':World) (j:J):Prop where
 ret:e= .returned (l.v.val ρ (lcOf j))
 sub:Sub (jOf bl) j
 rows:zww ρ j K w0 w' l.rows
 maps:zCz ρ j w0 w' l.maps
 names: ∀n∈l.v.names,j n=some (lcOf j n)
 rnames:zoa j l.rows
 apart: ∀r∈l.rows,∀r'∈l.rows,r.1≠r'.1→ ∀L L',j r.1=some L→j r'.1=some L'→L.blk=L'.blk→ ¬(w0.heap.size≤L.blk∨K L.blk)
 mapart: ∀r∈l.rows,∀r'∈l.maps,∀L L',j r.1=some L→j r'.1=some L'→L.blk≠L'.blk
 mine: ∀r∈l.rows,∀L,j r.1=some L→Mine j L.blk
 fresh: ∀n∈l.own,∀L,j n=some L→(w0.heap.size≤L.blk∨K L.blk)∧L.off=0
 gho:g.G l.gs j w'
 mv:Mv K w0 w'
def znX (n:Nat):List (List (SB×Bool)×Nat)→List (List (SB×Bool)×Nat)
 | [] => []
 | p::l=>(p.1.drop n,p.2)::znX n l
def Ob.ways (asm:List (SB×Bool)) (o:Ob):Option (List (List (SB×Bool)×Nat)):=
 match o.paths asm with
 | some l=>some (znX asm.length l)
 | none=>none
theorem zdh {n:Nat}: ∀ {l:List (List (SB×Bool)×Nat)} {p:List (SB×Bool)×Nat},p∈l→(p.1.drop n,p.2)∈znX n l
 | [], _,h=>by cases h
 | q::l,p,h=>by
  unfold znX
  rcases List.mem_cons.1 h with rfl|h
  ·exact List.mem_cons_self ..
  ·exact List.mem_cons_of_mem _ (zdh h)
theorem zit {ρ:Val} {w:World} {K:Nat→Prop} {g:Gho} {bl:List (Nat×Nat)} {l:Leaf} {m:Nat→Bool} {H H':Heap} {j':J} {u:Value} {v:AV} {w':World}
  (x1:l.v.exact=true) (x2:l.v.small=true) (x3:zdH l.rows=true) (x4:zdM l.maps=true)
  (h1:R (ρ.mark m) j' v u) (h2:Inv (ρ.mark m) (cxOf w K g) j' H' w') (h3:St (jOf bl) H j' H') (h4:l.fits v H'=true):zod ρ w K g bl l (.returned u) w' j':=by
 obtain ⟨k1,k2,k3,k4,k5⟩:=zJZ h4
 subst k1
 refine ⟨by rw [zr2 m x2 x1 h1],h3.sub,zpi (x:=cxOf w K g) (fun b=>Iff.rfl) h2 x3 k2,zqP h2 x4 k3,names_some h1,zja h2 k2,fun r hr r' hr' hne L L' hL hL' hb=>h2.rowsApart hne (zgk k2 hr hr' hne) hL hL' (zch k2 hr) (zch k2 hr') hb,
  fun r hr r' hr' L L' hL hL'=>h2.rowMapApart hL hL' (zch k2 hr) (zkh k3 hr'),fun r hr L hL=> ?_,fun n hn L hL=> ?_,?_,h2.fr.os,h2.fr.tape,h2.fr.out,h2.fr.size,h2.fr.old⟩
 ·obtain ⟨_,_,_,_,_,_,h5,_⟩:=ze2 (zch k2 hr)
  exact ⟨r.1,L,hL,h2.qrow hL h5,rfl⟩
 ·obtain ⟨v,e,c,sh,h5⟩:=zka k5 hn
  refine ⟨?_,h2.off0 n L v e c sh hL h5⟩
  obtain ⟨o,h6,h7⟩:=h2.obj n L hL
  rw [h5] at h6;cases h6
  have h8:=h7.2.1
  rw [if_pos rfl] at h8
  exact h8
 ·rw [←k4];exact h2.gho
theorem zaD {P:Program} {ρ:Val} {w:World} {K:Nat→Prop} {g:Gho} {bl:List (Nat×Nat)} {shs:List Sh} {gs:Nat} {ents:List Ent} {n:Nat} {f:FuncId} {args:List AV} {vals:List Value} {ls:List Leaf} {asm:List (SB×Bool)} {ps:List (List (SB×Bool)×Nat)}
  (hmo:P.follows .mixedOrders=true)
  (h:(ev P (zau ents) n (.call f args (zas gs shs) (zaR ls 0))).ways asm=some ps)
  (hs:(zai shs&&zaf ents&&AV.smallL args&&zal ls)=true)
  (hK: ∀b,K b→b<w.heap.size) (ho:ShsOk ρ (jOf bl) (cxOf w K g) bl shs) (hap:apart bl shs) (hG:g.G gs (jOf bl) w) (he:zmO P ρ w K g ents) (ha:RL ρ (jOf bl) args vals) (ht:Told ρ asm):
  Calls P f vals.toArray w fun e w'=> ∃p∈ps,Told ρ p.1∧ ∃l,ls[p.2]? =some l∧ ∃j,zod ρ w K g bl l e w' j:=by
 simp only [Bool.and_eq_true] at hs
 obtain ⟨⟨⟨s1,s2⟩,s3⟩,s4⟩:=hs
 unfold Ob.ways at h
 cases hps:(ev P (zau ents) n (.call f args (zas gs shs) (zaR ls 0))).paths asm with
 | none=>rw [hps] at h;cases h
 | some ps0=>
 rw [hps] at h
 cases h
 have h:=hps
 refine Calls.mono (zD6 (x:=cxOf w K g) hmo (fun m=>zgP (zdf m s2 he)) (fun m=>zgK hK (zdT m s1 ho) hap hG) (fun m=>(RL_mark m s3).2 ha) ht h) fun e w' hh=> ?_
 obtain ⟨p,hp,hto,l,hl,m,u,v,j',H',rfl,h1,h2,h3,h4⟩:=hh
 obtain ⟨x1,x2,x3,x4⟩:=zce s4 hl
 exact ⟨(p.1.drop asm.length,p.2),zdh hp,fun c hc=>hto c (List.mem_of_mem_drop hc),l,hl,j',zit x1 x2 x3 x4 h1 h2 h3 h4⟩
end Go.Dw
namespace Go.Dw
open Go.RowKit
def u8v (i:Nat):SE:= .flds [⟨i,0,255,0,8,0⟩] 0
def u16v (i:Nat):SE:= .flds [⟨i,0,65535,0,16,0⟩] 0
def u32v (i:Nat):SE:= .flds [⟨i,0,4294967295,0,32,0⟩] 0
def u64v (i:Nat):SE:= .flds [⟨i,0,18446744073709551615,0,64,0⟩] 0
def szv (i:Nat):SE:= .flds [⟨i,1,32768,0,16,0⟩] 0
def lnv (i:Nat):SE:= .flds [⟨i,0,4611686018427387903,0,62,0⟩] 0
theorem zhq {ρ:Val} {i lo hi n:Nat} (h0:(lo:Int)≤ρ.i i) (h1:ρ.i i≤(hi:Int)) (h2:hi<2^n):SE.den ρ (.flds [⟨i,lo,hi,0,n,0⟩] 0)=ρ.i i:=by
 obtain ⟨x,hx⟩:=Int.eq_ofNat_of_zero_le (Int.le_trans (Int.natCast_nonneg lo) h0)
 simp only [SE.den,zaj,Fld.den,hx,Int.toNat_natCast,Nat.shiftRight_zero,Nat.shiftLeft_zero,Nat.or_zero]
 rw [hx] at h0 h1
 have e:max lo (min x hi)=x:=by omega
 rw [e,Nat.mod_eq_of_lt (by omega)]
 rfl
theorem zJ5 {ρ:Val} {i:Nat} (h0:0≤ρ.i i) (h1:ρ.i i<256):(u8v i).den ρ=ρ.i i:=zhq (by omega) (by omega) (by decide)
theorem zbD {ρ:Val} {i:Nat} (h0:0≤ρ.i i) (h1:ρ.i i<65536):(u16v i).den ρ=ρ.i i:=zhq (by omega) (by omega) (by decide)
theorem zbx {ρ:Val} {i:Nat} (h0:0≤ρ.i i) (h1:ρ.i i<4294967296):(u32v i).den ρ=ρ.i i:=zhq (by omega) (by omega) (by decide)
theorem zaG {ρ:Val} {i:Nat} (h0:0≤ρ.i i) (h1:ρ.i i<18446744073709551616):(u64v i).den ρ=ρ.i i:=zhq (by omega) (by omega) (by decide)
theorem zdz {ρ:Val} {i:Nat} (h0:1≤ρ.i i) (h1:ρ.i i≤32768):(szv i).den ρ=ρ.i i:=zhq (by omega) (by omega) (by decide)
theorem zat {ρ:Val} {i:Nat} (h0:0≤ρ.i i) (h1:ρ.i i<4611686018427387904):(lnv i).den ρ=ρ.i i:=zhq (by omega) (by omega) (by decide)
theorem zad {ρ:Val} {n:Int}:SE.den ρ (.lit n)=n:=rfl
theorem zaM {ρ:Val} {i:Nat}:SE.den ρ (.var i)=ρ.i i:=rfl
theorem den_add {ρ:Val} {k:IntKind} {a b:SE}:SE.den ρ (.bin .add k a b)=k.wrap (a.den ρ+b.den ρ):=rfl
theorem zbs {ρ:Val} {k:IntKind} {a b:SE}:SE.den ρ (.bin .sub k a b)=k.wrap (a.den ρ-b.den ρ):=rfl
theorem den_mul {ρ:Val} {k:IntKind} {a b:SE}:SE.den ρ (.bin .mul k a b)=k.wrap (a.den ρ*b.den ρ):=rfl
theorem zv5 {ρ:Val} {k:IntKind} {a:SE}:SE.den ρ (.wrap k a)=k.wrap (a.den ρ):=rfl
theorem zbN {ρ:Val} {b:Bool}:SB.den ρ (.lit b)=b:=rfl
theorem zaA {ρ:Val} {i:Nat}:SB.den ρ (.var i)=ρ.b i:=rfl
theorem zBS {ρ:Val} {b:SB}:SB.den ρ (.not b)= !(b.den ρ):=rfl
theorem zJ7 {ρ:Val} {a b:SB}:SB.den ρ (.and a b)=(a.den ρ&&b.den ρ):=rfl
theorem zbj {ρ:Val} {a b:SE}:SB.den ρ (.cmp .eql a b)=(a.den ρ==b.den ρ):=rfl
theorem zcL {ρ:Val} {a b:SE}:SB.den ρ (.cmp .neq a b)=(a.den ρ !=b.den ρ):=rfl
theorem zaY {ρ:Val} {a b:SE}:SB.den ρ (.cmp .lss a b)=decide (a.den ρ<b.den ρ):=rfl
theorem zkC {ρ:Val} {a b:SE}:SB.den ρ (.cmp .leq a b)=decide (a.den ρ≤b.den ρ):=rfl
theorem zbC {ρ:Val} {a b:SE}:SB.den ρ (.cmp .gtr a b)=decide (a.den ρ>b.den ρ):=rfl
theorem zcf {ρ:Val} {a b:SE}:SB.den ρ (.cmp .geq a b)=decide (a.den ρ≥b.den ρ):=rfl
theorem zbE {k:Int} (h:0≤k) (h':k<18446744073709551616):IntKind.wrap .u64 k=k:=by unfold IntKind.wrap;simp [IntKind.signed,IntKind.bits];omega
theorem zIY {k:Int} (h:0≤k) (h':k<4294967296):IntKind.wrap .u32 k=k:=by unfold IntKind.wrap;simp [IntKind.signed,IntKind.bits];omega
theorem zET {k:Int} (h:0≤k) (h':k<65536):IntKind.wrap .u16 k=k:=by unfold IntKind.wrap;simp [IntKind.signed,IntKind.bits];omega
theorem zof (k:Int):IntKind.wrap .u16 k=k%65536:=by unfold IntKind.wrap;simp [IntKind.signed,IntKind.bits]
theorem zoe (k:Int):IntKind.wrap .u64 k=k%18446744073709551616:=by unfold IntKind.wrap;simp [IntKind.signed,IntKind.bits]
theorem zbL {k:Int} (h: -9223372036854775808≤k) (h':k<9223372036854775808):IntKind.wrap .i64 k=k:=by
 simp only [IntKind.wrap,IntKind.bits,IntKind.signed]
 simp
 omega
theorem zab {ρ:Val} {j:J} {a:AV} {l:List AV} {v:Value} {m:List Value} (h:R ρ j a v) (h':RL ρ j l m):RL ρ j (a::l) (v::m):=⟨v,m,rfl,h,h'⟩
theorem zac {ρ:Val} {j:J} {k:IntKind} {n:SE} {x:Int} (h:n.den ρ=x):R ρ j (.int k n) (.int k x):=by show Value.int k x= .int k (n.den ρ);rw [h]
theorem zap {ρ:Val} {j:J} {b:SB} {x:Bool} (h:b.den ρ=x):R ρ j (.bool b) (.bool x):=by show Value.bool x= .bool (b.den ρ);rw [h]
theorem za5 {ρ:Val} {j:J} {i:Nat} {v:Value} (h:ρ.v i=v) (h1:v.oneCell'=true):R ρ j (.cst i none) v:=⟨h.symm,h1,fun _ h=>by cases h⟩
theorem zIQ {ρ:Val} {j:J} {i:Nat} {n:SE} {v:Value} {b:Option Addr} {l c:Nat} (h:ρ.v i=v) (h1:v= .slice b l c) (h2:n.den ρ=l):R ρ j (.cst i (some n)) v:=
 ⟨h.symm,by rw [h1];rfl,fun _ h=>by cases h;exact ⟨b,l,c,h1,by rw [h2];rfl⟩⟩
theorem zKk {ρ:Val} {j:J} {n:Nat} {L:Loc} (h:j n=some L):R ρ j (.map n) (.map (some L.blk)):=⟨L,h,rfl⟩
theorem zcj {ρ:Val} {j:J} {n o:Nat} {L:Loc} (h:j n=some L):R ρ j (.ptr n o) (.pointer (some ⟨L.blk,L.off+o,none⟩)):=⟨L,h,rfl⟩
theorem zbg {ρ:Val} {j:J} {a:List AV} {l:List Value} (h:RL ρ j a l):R ρ j (.agg a) (.agg l.toArray):=⟨l,rfl,h⟩
theorem zcC {ρ:Val} {j:J} {a:List AV} {l:List Value} (h:RL ρ j a l):R ρ j (.tup a) (.tuple l.toArray):=⟨l,rfl,h⟩
theorem zar {ρ:Val} {w0:World} {K:Nat→Prop} {g:Gho} {bl:List (Nat×Nat)} {l:Leaf} {e:Ending} {w':World} {j:J} (h:zod ρ w0 K g bl l e w' j) (hK: ∀b,¬K b):Below w0.heap.size w0 w':=
 ⟨h.mv.os,h.mv.tape,h.mv.output,h.mv.size,fun k hk=>h.mv.block k hk (hK k)⟩
theorem zbc {w:World} {b:Nat} {vals:List Value} (h:Own w b vals) {i:Nat} {v:Value} (hv:vals[i]? =some v):w.cell? ⟨b,i,none⟩=some v:=by
 obtain ⟨arr,e,h1,h2⟩:=h
 simp [World.cell?,h1,h2 i v hv]
theorem own_lt {w:World} {b:Nat} {vals:List Value} (h:Own w b vals):b<w.heap.size:=by
 obtain ⟨arr,e,h1,_⟩:=h
 exact (Array.getElem?_eq_some_iff.1 h1).1
theorem Own.kept {w w':World} {b:Nat} {vals:List Value} (h:Own w b vals) (e:w'.heap[b]? =w.heap[b]?):Own w' b vals:=by
 obtain ⟨arr,t,h1,h2⟩:=h
 exact ⟨arr,t,e.trans h1,h2⟩
theorem Row.kept {w w':World} {L:Loc} {vals:List Value} (h:Row w L vals) (e:w'.heap[L.blk]? =w.heap[L.blk]?):Row w' L vals:=by
 obtain ⟨arr,t,fr,h1,h2⟩:=h
 exact ⟨arr,t,fr,e.trans h1,h2⟩
theorem zaO {k:Nat} {j:J} {w:World}:Gho.none.G k j w:=⟨fun _=>False,fun _ h=>h.elim,trivial⟩
end Go.Dw
namespace Go.Dw
theorem zae {ρ:Val}:Told ρ []↔True:=⟨fun _=>trivial,fun _ c h=>by cases h⟩
theorem zaa {ρ:Val} {c:SB} {b:Bool} {l:List (SB×Bool)}:Told ρ ((c,b)::l)↔c.den ρ=b∧Told ρ l:=
 ⟨fun h=>⟨h (c,b) (by simp),fun x hx=>h x (by simp [hx])⟩,fun h x hx=>by
  rcases List.mem_cons.1 hx with rfl|hx
  ·exact h.1
  ·exact h.2 x hx⟩
def vof (is:List Int) (bs:List Bool) (vs:List Value):Val:=⟨fun i=>is.getD i 0,fun i=>bs.getD i false,fun i=>vs.getD i (.bool false)⟩
end Go.Dw
namespace Go.Dw
end Go.Dw
namespace Go.Dw
open Go.RowKit
theorem zcR {ρ:Val} {j:J} {a:List AV} {u v:List Value} (hx:AV.exactL a=true) (h:RL ρ j a u) (k:RL ρ j a v):u=v:=(RL_val hx h).trans (RL_val hx k).symm
def zBK (P:Program) (f:FuncId):Bool:=
  match P.funcs[f]? with
  | some fn => (match fn.body with | some _ => decide (fn.name ≠ "runtime.NumGoroutine") | none => false)
  | none=>false
theorem enters_of {P:Program} {f:FuncId} (h:zBK P f=true):Enters P f:=by
 unfold zBK at h
 split at h
 case h_2=>cases h
 rename_i fn hf
 split at h
 case h_2=>cases h
 rename_i c hc
 exact ⟨fn,c,hf,hc,of_decide_eq_true h⟩
theorem zaw {P:Program} {ρ:Val} {w0:World} {K:Nat→Prop} {g:Gho} {f:FuncId} {args:List AV} {gs base:Nat} {res:AV} (he:Enters P f) (hx:AV.exactL args=true) (V:List Value) (U:Value)
  (ha: ∀j,RL ρ j args V) (hr: ∀j,R ρ j res U) (h: ∀w F q,g.fact gs q F w→Calls P f V.toArray w fun en w'=>en= .returned U∧Below w.heap.size w w'):zaQ P ρ w0 K g ⟨f,args,gs,base,0,res,gs⟩:=
 zgO he fun j w vals F hv hf=>by
  rw [zcR hx hv (ha j)]
  exact Calls.mono (h w F _ hf) fun en w' hh=>⟨U,hh.1,hr j,hh.2⟩
theorem zrs {P:Program} {ρ:Val} {w0:World} {K:Nat→Prop} {g:Gho} {f:FuncId} {args:List AV} {gs base gs':Nat} {res:AV} (he:Enters P f) (hx:AV.exactL args=true) (V:List Value) (U:Value)
  (ha: ∀j,RL ρ j args V) (hr: ∀j,R ρ j res U) (h: ∀w F q,g.fact gs q F w→Calls P f V.toArray w fun en w'=>en= .returned U∧g.fact gs' q F w'∧Mv (fun b=>F b∧K b) w w'):zaQ P ρ w0 K g ⟨f,args,gs,base,0,res,gs'⟩:=
 zrt he fun j w vals F hv hf=>by
  rw [zcR hx hv (ha j)]
  exact Calls.mono (h w F _ hf) fun en w' hh=>⟨U,hh.1,hr j,hh.2⟩
theorem zcr {ρ:Val} {w0:World} {K:Nat→Prop} {g:Gho} {bl:List (Nat×Nat)} {l0:Leaf} {e:Ending} {w':World} {pre:List (SB×Bool)}
  (h: ∃p∈ [(pre,0)],Told ρ p.1∧ ∃l,[l0][p.2]? =some l∧ ∃j,zod ρ w0 K g bl l e w' j):Told ρ pre∧ ∃j,zod ρ w0 K g bl l0 e w' j:=by
 obtain ⟨p,hp,ht,l,hl,j,he⟩:=h
 rw [List.mem_singleton] at hp
 subst hp
 cases hl
 exact ⟨ht,j,he⟩
end Go.Dw
namespace Go.Proofs
open Go.Dw Go.RowKit
structure Tryz.Rg where
 n:Int
 d:Int
 v:Int
 c:Int
theorem Tryz.mixed:prog.follows .mixedOrders=true:=by kernel_rfl
section
variable {r:Tryz.Rg} {is:List Int} {bs:List Bool} {vs:List Value}
end
theorem Tryz.znD {ρ:Val} {i n:Nat} (h0:0≤ρ.i i) (h1:ρ.i i<18446744073709551616):SE.den ρ (.flds [⟨i,0,18446744073709551615,0,n,0⟩] 0)=ρ.i i%2^n:=by
 obtain ⟨x,hx⟩:=Int.eq_ofNat_of_zero_le h0
 simp only [SE.den,zaj,Fld.den,hx,Int.toNat_natCast,Nat.shiftRight_zero,Nat.shiftLeft_zero,Nat.or_zero]
 rw [hx] at h1
 have e:max 0 (min x 18446744073709551615)=x:=by omega
 rw [e]
 rfl
end Go.Proofs
namespace Go.Proofs
open Go.Dw Go.RowKit
structure Tryz.Sg where
 at1:Int
 len:Int
 wr:Bool
deriving DecidableEq
def Tryz.Sg.cells (x:Sg):List Value:= [.int .u64 x.at1,.int .u32 x.len,.bool x.wr]
def Tryz.zaS (l:List Sg):List Value:=l.flatMap Sg.cells
def Tryz.Sg.ok (x:Sg):Prop:=0≤x.at1∧x.at1<18446744073709551616∧0≤x.len∧x.len<4294967296
theorem Tryz.zga (x:Sg) (r:List Sg):zaS (x::r)= .int .u64 x.at1:: .int .u32 x.len:: .bool x.wr::zaS r:=rfl
theorem Tryz.zcn (l:List Sg):(zaS l).length=3*l.length:=by
 induction l with
 | nil=>rfl
 | cons x r ih=>
  rw [zga]
  simp only [List.length_cons,ih]
  omega
theorem Tryz.zpg (l:List Sg) (i:Nat) (hi:i<l.length):(zaS l)[3*i]? =some (.int .u64 l[i].at1)∧(zaS l)[3*i+1]? =some (.int .u32 l[i].len)∧(zaS l)[3*i+2]? =some (.bool l[i].wr):=by
 induction l generalizing i with
 | nil=>simp at hi
 | cons x r ih=>
  cases i with
  | zero=>exact ⟨rfl,rfl,rfl⟩
  | succ i=>
   have h:=ih i (by simpa using hi)
   rw [zga,show 3*(i+1)=3*i+1+1+1 by omega,show 3*i+1+1+1+1=(3*i+1)+1+1+1 by omega,show 3*i+1+1+1+2=(3*i+2)+1+1+1 by omega]
   simp only [List.getElem?_cons_succ,List.getElem_cons_succ]
   exact h
theorem Tryz.zpf (l:List Sg): ∀v∈zaS l,v.oneCell'=true:=fun v hv=>by
 simp only [zaS,List.mem_flatMap,Sg.cells,List.mem_cons,List.not_mem_nil,or_false] at hv
 obtain ⟨x,_,rfl|rfl|rfl⟩:=hv<;>rfl
theorem Tryz.zb0 {w:World} {R o:Nat} {l:List Sg} (h:w.rangeAt R o (zaS l)) (k:Nat) (hk:k<l.length):w.rangeAt R (o+3*k) l[k].cells:=fun j v hv=>by
 obtain ⟨h0,h1,h2⟩:=zpg l k hk
 match j,hv with
 | 0,hv=>cases hv;exact h _ _ h0
 | 1,hv=>cases hv;have:=h _ _ h1;rwa [←Nat.add_assoc] at this
 | 2,hv=>cases hv;have:=h _ _ h2;rwa [←Nat.add_assoc] at this
 | j+3,hv=>cases hv
def Tryz.SegV (A:Nat→Prop) (w:World) (v:Value) (l:List Sg):Prop:=
 ∃ (sa:Option Addr) (c:Nat),v= .slice sa l.length c∧(∀x∈l,x.ok)∧(l= []∨ ∃R o,sa=some ⟨R,o,none⟩∧ ¬A R∧w.rangeAt R o (zaS l))
theorem Tryz.zcF {w:World} {R o:Nat} {l:List Sg} (h:w.rangeAt R o (zaS l)) (h0:l≠ []):R<w.heap.size:=by
 have h1:0<(zaS l).length:=by
  rw [zcn]
  have:=List.length_pos_iff.2 h0
  omega
 exact World.block_lt_of_cell? w ⟨R,o+0,none⟩ (h 0 _ (List.getElem?_eq_getElem h1))
theorem Tryz.SegV.kept {A:Nat→Prop} {w w':World} {v:Value} {l:List Sg} (h:SegV A w v l) (hk: ∀k,k<w.heap.size→ ¬A k→w'.heap[k]? =w.heap[k]?):SegV A w' v l:=by
 obtain ⟨sa,c,rfl,hl,hr⟩:=h
 refine ⟨sa,c,rfl,hl,?_⟩
 rcases hr with h0|⟨R,o,rfl,hn,hr⟩
 ·exact Or.inl h0
 ·by_cases h0:l= []
  ·exact Or.inl h0
  ·exact Or.inr ⟨R,o,rfl,hn,zaV hr (hk R (zcF hr h0) hn)⟩
theorem Tryz.SegV.below {A:Nat→Prop} {w w':World} {v:Value} {l:List Sg} (h:SegV A w v l) (hb:Below w.heap.size w w'):SegV A w' v l:=h.kept (fun k hk _=>hb.block k hk)
theorem Tryz.SegV.one {A:Nat→Prop} {w:World} {v:Value} {l:List Sg} (h:SegV A w v l):v.oneCell'=true:=by
 obtain ⟨sa,c,rfl,_⟩:=h
 rfl
structure Tryz.SS where
 ev:Bool
 tb:Bool
 pk:Bool
 nx:Int
 us:Int
 tk:List (Int×List Sg)
 ph:Nat
 op:Int
 nn:Bool
 hd:Int
 sg:List Sg
 wr:Int
 it:Bool
 dn:Bool
 br:Bool
theorem Tryz.zi9 {w:World} {L:Dw.Loc} {vals:List Value} (h:Row w L vals):L.blk<w.heap.size:=by
 obtain ⟨arr,e,fr,h1,_⟩:=h
 exact (Array.getElem?_eq_some_iff.1 h1).1
end Go.Proofs
end
