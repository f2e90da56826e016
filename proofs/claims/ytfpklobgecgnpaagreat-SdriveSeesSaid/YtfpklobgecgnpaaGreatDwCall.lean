/-
  DwCall: calls, statements, regions: the abstract machine's runs stand for the model's.
-/
import Derived.Test.YtfpklobgecgnpaaGreatDwOps3
import Derived.Defers
import Derived.Tactics
import Derived.LoopN
namespace Go.Dw
set_option linter.unusedSimpArgs false
set_option linter.unusedVariables false

def Enters (P : Program) (f : FuncId) : Prop := ∃ fn c, P.funcs[f]? = some fn ∧ fn.body = some c ∧ fn.name ≠ "runtime.NumGoroutine"

/-- A call's answer. -/
def CallOk (P : Program) (ρ : Val) (w0 : World) (f : FuncId) (args : List AV) (H : Heap) (k : K) : Prop :=
  ∀ (j : J) (w : World) (vals : List Value), Inv ρ w0 j H w → RL ρ j args vals → Calls P f vals.toArray w (fun e w' => ∃ u, e = .returned u ∧ Post ρ w0 j H k u w')

def exOf : Ex → Exit
  | .normal => .normal
  | .exit id => .exit id
  | .ret => .ret
/-- A statement's end. -/
def CodeQ (ρ : Val) (w0 : World) (j : J) (H : Heap) (N : Nat) (k : KC) (ex : Exit) (a : Act) (w : World) : Prop :=
  ∃ x env' H' j', ex = exOf x ∧ ER ρ j' N env' a ∧ Inv ρ w0 j' H' w ∧ St j H j' H' ∧ Ob.den ρ (k x env' H')
def OpsE (ρ : Val) (w0 : World) (j : J) (H : Heap) (N : Nat) (k : T AV → Heap → Ob) (a : Act) (w : World) : Prop :=
  ∃ env' H' j', ER ρ j' N env' a ∧ Inv ρ w0 j' H' w ∧ St j H j' H' ∧ Ob.den ρ (k env' H')

structure Good (P : Program) (ρ : Val) (w0 : World) (n : Nat) (rec : Task → Ob) : Prop where
  call : ∀ f args H k, Ob.den ρ (rec (.call f args H k)) → Enters P f ∧ CallOk P ρ w0 f args H k
  code : ∀ c N env H k, Ob.den ρ (rec (.code c N env H k)) → ∀ j a w, Inv ρ w0 j H w → ER ρ j N env a → c.wp P (CodeQ ρ w0 j H N k) a w
  loop : ∀ c N env H k, Ob.den ρ (rec (.code (.loop c) N env H k)) → ∀ j a w, Inv ρ w0 j H w → ER ρ j N env a → Code.rounds P c (CodeQ ρ w0 j H N k) n a w
  ops : ∀ all l N env H k, Ob.den ρ (rec (.ops all l N env H k)) → ∀ j a w Q, Inv ρ w0 j H w → ER ρ j N env a → (∀ a' w', OpsE ρ w0 j H N k a' w' → Q Exit.normal a' w') → wpList P all Q l a w

section
variable {P : Program} {ρ : Val} {w0 : World} {j : J} {H : Heap} {w : World} {N : Nat} {env : T AV} {a : Act} {o : Oper} {k : K} {Q : Exit → Act → World → Prop} {rec : Task → Ob} {n : Nat}

/-! ### Slots -/
theorem envGet_set (env : T AV) (t u : Nat) (v : AV) : envGet (env.set t v) u = if u = t then v else envGet env u := by
  unfold envGet
  rw [T.get_set]
  by_cases h : u = t
  · rw [if_pos h, if_pos h]
  · rw [if_neg h, if_neg h]

theorem ER.same (he : ER ρ j N env a) {t : Nat} {v : AV} (ht : t < N) (hv : R ρ j v (a.tmps.getD t undef)) : ER ρ j N (env.set t v) a := by
  refine ⟨he.size, he.le, fun u hu => ?_, ?_⟩
  · rw [envGet_set]
    split
    · rename_i e; rw [e]; exact hv
    · exact he.get u hu
  · rw [envGet_set, if_neg (by have := he.le; omega)]
    exact he.dfr

theorem ER.put (he : ER ρ j N env a) {d : Nat} {v : AV} {u : Value} (hd : d < N) (hv : R ρ j v u) : ER ρ j N (env.set d v) (a.put (some d) u) := by
  have hsz := he.size
  refine ⟨by simp [Act.put, he.size], he.le, fun t ht => ?_, ?_⟩
  · rw [envGet_set]
    split
    · rename_i e
      subst e
      simp only [Act.put, Array.getD_eq_getD_getElem?, Array.getElem?_setIfInBounds_self]
      rw [if_pos (by omega)]
      exact hv
    · rename_i e
      simp only [Act.put, Array.getD_eq_getD_getElem?, Array.getElem?_setIfInBounds_ne (Ne.symm e)]
      have := he.get t ht
      rwa [Array.getD_eq_getD_getElem?] at this
  · rw [envGet_set, if_neg (by have := he.le; omega)]
    exact he.dfr

theorem putA_sound (he : ER ρ j N env a) {dst : Option Tmp} {v : AV} {u : Value} {kk : T AV → Ob} (hv : R ρ j v u) (h : Ob.den ρ (putA dst N env v kk)) :
    ∃ env', ER ρ j N env' (a.put dst u) ∧ Ob.den ρ (kk env') := by
  unfold putA at h
  split at h
  · exact ⟨env, he, h⟩
  · rename_i d
    split at h
    · rename_i hb
      rw [Nat.blt_eq] at hb
      exact ⟨_, he.put hb hv, h⟩
    · exact h.elim

/-- The slot's truth value. -/
theorem slot_bool (he : ER ρ j N env a) {t : Nat} {b : SB} (h : env.get t = some (.bool b)) : t ≠ dslot ∧ a.tmps[t]? = some (.bool (b.den ρ)) := by
  have hne : t ≠ dslot := fun e => by
    subst e
    have := he.dfr
    unfold envGet at this
    rw [h] at this
    cases hd : a.defers with
    | nil => rw [hd] at this; cases this
    | cons d ds => rw [hd] at this; obtain ⟨_, _, _, _, e, _⟩ := this; cases e
  refine ⟨hne, ?_⟩
  have := he.get t hne
  unfold envGet at this
  rw [h] at this
  simp only [R, Array.getD_eq_getD_getElem?] at this
  cases ht : a.tmps[t]? with
  | none => rw [ht] at this; simp [undef] at this
  | some x => rw [ht] at this; simp at this; rw [this]

/-- What a guard's answer says. -/
def GOk (all : Array Oper) (env : T AV) (a : Act) (o : Oper) : G → Prop
  | .yes => Region.wanted o (yielded all a.tmps) = true
  | .no => Region.wanted o (yielded all a.tmps) = false
  | .test t b _ => env.get t = some (.bool b)
  | .none => True
theorem guard_sound (he : ER ρ j N env a) (all : Array Oper) (o : Oper) : GOk all env a o (guardA all env o) := by
  unfold guardA
  split
  · rename_i hg; show Region.wanted o _ = true; unfold Region.wanted; rw [hg]
  rename_i i want hg
  have hw : Region.wanted o (yielded all a.tmps) = (yielded all a.tmps i == some want) := by unfold Region.wanted; rw [hg]
  split
  · rename_i hi; show Region.wanted o _ = false; rw [hw]; simp [yielded, hi]
  rename_i oj hi
  split
  · rename_i hd; show Region.wanted o _ = false; rw [hw]; simp [yielded, hi, hd]
  rename_i t hd
  have undef' : (∀ b, a.tmps[t]? ≠ some (.bool b)) → Region.wanted o (yielded all a.tmps) = false := by
    intro hb
    rw [hw]
    unfold yielded
    rw [hi]
    simp only [Option.bind_some, hd]
    cases hx : a.tmps[t]? with
    | none => rfl
    | some v => cases v <;> first | rfl | exact absurd hx (hb _)
  have val : ∀ b, env.get t = some (.bool b) → Region.wanted o (yielded all a.tmps) = (some (b.den ρ) == some want) := fun b hb => by
    have := (slot_bool he hb).2
    rw [hw]
    unfold yielded
    rw [hi]
    simp only [Option.bind_some, hd, this]
  have nob : envGet env t = .tup [] → ∀ b, a.tmps[t]? ≠ some (.bool b) := fun h0 b hb => by
    by_cases hne : t = dslot
    · rw [hne, Array.getElem?_eq_none (by rw [he.size]; exact he.le)] at hb; cases hb
    · have := he.get t hne
      rw [h0, Array.getD_eq_getD_getElem?, hb] at this
      obtain ⟨m, e, _⟩ := this
      cases e
  split
  · rename_i h0
    exact undef' (nob (by unfold envGet; rw [h0]; rfl))
  · rename_i h0
    have := val _ h0
    cases want
    · show Region.wanted o _ = false; rw [this]; rfl
    · show Region.wanted o _ = true; rw [this]; rfl
  · rename_i h0
    have := val _ h0
    cases want
    · show Region.wanted o _ = true; rw [this]; rfl
    · show Region.wanted o _ = false; rw [this]; rfl
  · show env.get t = some _; assumption
  · rename_i h0
    exact undef' (nob (by unfold envGet; rw [h0]))
  · trivial

/-! ### Calls among the operations -/
theorem run_callFunc {f : FuncId} (h : Enters P f) (args : Array Value) : (callFunc f args).run P w = .ok (.enter f args) w := by
  obtain ⟨fn, c, h1, h2, h3⟩ := h
  simp [callFunc, h1, h2, h3]

theorem call_ok {g : FuncId} {args : List AV} {vals : List Value} (hi : Inv ρ w0 j H w) (hv : RL ρ j args vals) (hen : Enters P g) (hc : CallOk P ρ w0 g args H k) (hx : (execOp a.eval o).run P w = (callFunc g vals.toArray).run P w) : OpOk P ρ w0 j H w a o k Q := by
  unfold OpOk Oper.wp
  rw [hx, run_callFunc hen, Oper.upon_enter]
  refine Calls.mono (hc j w vals hi hv) fun e w' he => ?_
  obtain ⟨u, rfl, hp⟩ := he
  exact ⟨u, rfl, hp⟩

theorem callV_ok (hg : Good P ρ w0 n rec) (hi : Inv ρ w0 j H w) (he : ER ρ j N env a) {c : Call} (ho : o.op = .call c) {f : Operand} (hc : c.callee = .value f) (h : Ob.den ρ (dCallV rec f c.args.toList env H k)) : OpOk P ρ w0 j H w a o k Q := by
  unfold dCallV at h
  split at h
  case h_2 => exact h.elim
  rename_i g first cap args hf hargs
  have hh : Ob.den ρ (rec (.call g (first ++ (args ++ cap)) H k)) := by
    split at h
    · simpa using h
    · exact h
  obtain ⟨l, m, hfv, hl, hm⟩ := opd_sound he hf
  have ha := args_of he hargs
  obtain ⟨hen, hcall⟩ := hg.call _ _ _ _ hh
  refine call_ok hi (hl.append (ha.append hm)) hen hcall ?_
  simp only [execOp, ho, resolve, hc, Sem.run_bind, hfv, Deferred.ofValue, Sem.run_pure, Result.andThen_ok, invoke]
  congr 2
  apply Array.ext'
  simp

theorem run_method {t : TypeId} {name : String} {g : FuncId} {n : Nat} {v : Value} (h : methodA P t name = some g) : (method (n + 1) t v name).run P w = .ok (g, v) w := by
  unfold methodA at h
  split at h
  · cases h
  rename_i inf hinf
  split at h
  · cases h
  rename_i m hm
  have hpath : ∀ l, m.path.toList = l → l = [] → m.path = #[] := fun l e e' => by apply Array.ext'; rw [e, e']
  split at h
  · rename_i f hp hf hu
    cases h
    unfold method
    simp only [typeInfo, Sem.run_bind, run_program, Result.andThen_ok, hinf, Sem.run_pure, hm, hp, follow, hf, receiverAt, run_underlying hu, Place.get]
  · cases h
  · rename_i f d hne hp hf hu
    cases h
    unfold method
    simp only [typeInfo, Sem.run_bind, run_program, Result.andThen_ok, hinf, Sem.run_pure, hm, hp, follow, hf, receiverAt, run_underlying hu, Place.get]
  · cases h

theorem callI_ok (hg : Good P ρ w0 n rec) (hi : Inv ρ w0 j H w) (he : ER ρ j N env a) {c : Call} (ho : o.op = .call c) {r : Operand} {name : String} (hc : c.callee = .invoke r name) (h : Ob.den ρ (dCallI P rec r name c.args.toList env H k)) : OpOk P ρ w0 j H w a o k Q := by
  unfold dCallI at h
  split at h
  case h_2 => exact h.elim
  rename_i t v args hr hargs
  split at h
  case h_2 => exact h.elim
  rename_i g hmeth
  obtain ⟨y, hrv, hy⟩ := opd_sound he hr
  have ha := args_of he hargs
  obtain ⟨hen, hcall⟩ := hg.call _ _ _ _ h
  refine call_ok hi (.cons hy ha) hen hcall ?_
  have hm : ∀ n, (method (P.types.size + Made.depth) t y name).run P n = .ok (g, y) n := fun n => run_method (n := P.types.size + 99) hmeth
  simp only [execOp, ho, resolve, hc, Sem.run_bind, hrv, Sem.run_pure, Result.andThen_ok, invoke]
  have e0 : (#[Value.iface t y] ++ c.args.map a.eval)[0]? = some (.iface t y) := by rw [Array.getElem?_append_left (by show 0 < 1; omega)]; rfl
  have e1 : (#[Value.iface t y] ++ c.args.map a.eval).extract 1 (#[Value.iface t y] ++ c.args.map a.eval).size = c.args.map a.eval := by
    apply Array.ext'; simp [List.take_of_length_le]
  rw [e0]
  simp only [callMethod, Sem.run_bind, run_program, Result.andThen_ok, hm, e1]
  congr 2
  apply Array.ext'
  simp

theorem builtin_ok (hi : Inv ρ w0 j H w) (he : ER ρ j N env a) {c : Call} (ho : o.op = .call c) {b : Builtin} (hc : c.callee = .builtin b) (h : Ob.den ρ (dBuiltin P b c env H k)) : OpOk P ρ w0 j H w a o k Q := by
  cases b <;> simp only [dBuiltin] at h <;> first
    | exact append_ok hi he ho hc h
    | exact copy_ok hi he ho hc h
    | exact delete_ok hi he ho hc h
    | exact clear_ok hi he ho hc h
    | exact h.elim

theorem heavy_ok (hg : Good P ρ w0 n rec) (hi : Inv ρ w0 j H w) (he : ER ρ j N env a) (h : Ob.den ρ (heavy P rec o.op env H k)) : OpOk P ρ w0 j H w a o k Q := by
  cases ho : o.op <;> rw [ho] at h <;> simp only [heavy] at h <;> try (exact h.elim)
  case insert => exact mapSet_ok hi he (.inr ho) h
  case store => exact store_ok hi he ho h
  case mapUpdate => exact mapSet_ok hi he (.inl ho) h
  case mapEntry => exact mapEntry_ok hi he ho h
  case entryStore => exact entryStore_ok hi he ho h
  case range => exact range_ok hi he ho h
  case next => exact next_ok hi he ho h
  case call c =>
    unfold dCall at h
    cases hc : c.callee <;> rw [hc] at h
    case value f => exact callV_ok hg hi he ho hc h
    case invoke r name => exact callI_ok hg hi he ho hc h
    case builtin b => exact builtin_ok hi he ho hc h

/-! ### One operation, with the slots -/
/-- What there is behind an operation. -/
def Post3 (ρ : Val) (w0 : World) (j : J) (H : Heap) (N : Nat) (dst : Option Tmp) (k : K3) (a' : Act) (w' : World) : Prop :=
  ∃ env1 v a1 u H' j', a' = a1.put dst u ∧ ER ρ j' N env1 a1 ∧ R ρ j' v u ∧ Inv ρ w0 j' H' w' ∧ St j H j' H' ∧ Ob.den ρ (k env1 v H')

theorem OpOk.post3 {k : K3} (he : ER ρ j N env a) (h : OpOk P ρ w0 j H w a o (k env) Q) : o.wp P a w (Post3 ρ w0 j H N o.dst k) Q := by
  refine Oper.wp_mono (fun a' w' hp => ?_) h
  obtain ⟨u, rfl, v, H', j', h1, h2, h3, h4⟩ := hp
  exact ⟨env, v, a, u, H', j', rfl, he.mono h3.sub, h1, h2, h3, h4⟩

theorem defer_ok (hi : Inv ρ w0 j H w) (he : ER ρ j N env a) {k : K3} (h : Ob.den ρ (doDefer rec o env H k)) : o.wp P a w (Post3 ρ w0 j H N o.dst k) Q := by
  unfold doDefer at h
  split at h
  case h_2 => exact h.elim
  rename_i c ho
  split at h
  case h_2 => exact h.elim
  rename_i f hc
  split at h
  case h_2 => exact h.elim
  rename_i g first cap args hf hargs
  obtain ⟨l, m, hfv, hl, hm⟩ := opd_sound he hf
  have ha := args_of he hargs
  have hx : (execOp a.eval o).run P w = .ok (.defer { target := .fn (.func g) m.toArray, args := l.toArray ++ c.args.map a.eval }) w := by
    simp only [execOp, ho, resolve, hc, Sem.run_bind, hfv, Deferred.ofValue, Sem.run_pure, Result.andThen_ok]
  unfold Oper.wp
  rw [hx, Oper.upon_defer]
  refine ⟨_, _, _, undef, H, j, rfl, ⟨he.size, he.le, fun t ht => ?_, ?_⟩, R_undef, hi, St.refl j H, h⟩
  · rw [envGet_set, if_neg ht]
    exact he.get t ht
  · rw [envGet_set, if_pos rfl]
    refine ⟨g, _, envGet env dslot, m.toArray, rfl, rfl, ?_, he.dfr⟩
    have : (l.toArray ++ c.args.map a.eval ++ m.toArray).toList = l ++ ((c.args.map a.eval).toList ++ m) := by simp
    rw [this]
    exact hl.append (ha.append hm)

theorem doOp_ok (hg : Good P ρ w0 n rec) (hi : Inv ρ w0 j H w) (he : ER ρ j N env a) {k : K3} (h : Ob.den ρ (doOp P rec o env H k)) : o.wp P a w (Post3 ρ w0 j H N o.dst k) Q := by
  unfold doOp at h
  cases hc : clsOf o.op <;> rw [hc] at h
  case light => exact (light_ok hi he (k := k env) h).post3 he
  case alloc => exact (alloc_ok hi he (k := k env) h).post3 he
  case heavy => exact (heavy_ok hg hi he (k := k env) h).post3 he
  case defr => exact defer_ok hi he h

/-! ### A region in order -/
theorem OpsE.later {j' : J} {H' : Heap} {k : T AV → Heap → Ob} {a' : Act} {w' : World} (hs : St j H j' H') (h : OpsE ρ w0 j' H' N k a' w') : OpsE ρ w0 j H N k a' w' := by
  obtain ⟨env', H2, j2, h1, h2, h3, h4⟩ := h
  exact ⟨env', H2, j2, h1, h2, hs.trans h3, h4⟩

theorem ops_ok (hg : Good P ρ w0 n rec) {all : Array Oper} {l : List Oper} {k : T AV → Heap → Ob} (h : Ob.den ρ (stepOps P rec all l N env H k)) (hi : Inv ρ w0 j H w) (he : ER ρ j N env a)
    (hQ : ∀ a' w', OpsE ρ w0 j H N k a' w' → Q Exit.normal a' w') : wpList P all Q l a w := by
  unfold stepOps at h
  split at h
  · exact hQ a w ⟨env, H, j, he, hi, St.refl j H, h⟩
  · rename_i o rest
    have hgu := guard_sound he all o
    unfold wpList
    split at h
    · rename_i hy
      rw [hy] at hgu
      have hgu : Region.wanted o (yielded all a.tmps) = true := hgu
      rw [if_pos hgu]
      refine .inl (Oper.wp_mono (fun a' w' hp => ?_) (doOp_ok hg hi he h))
      obtain ⟨env1, v, a1, u, H', j', rfl, h1, h2, h3, h4, h5⟩ := hp
      obtain ⟨env2, h6, h7⟩ := putA_sound h1 h2 h5
      exact hg.ops _ _ _ _ _ _ h7 j' _ _ Q h3 h6 fun a' w' hh => hQ _ _ (hh.later h4)
    · rename_i hy
      rw [hy] at hgu
      have hgu : Region.wanted o (yielded all a.tmps) = false := hgu
      rw [hgu, if_neg (by simp)]
      obtain ⟨env2, h6, h7⟩ := putA_sound he R_undef h
      exact hg.ops _ _ _ _ _ _ h7 j _ _ Q hi h6 hQ
    · rename_i t b _ hy
      rw [hy] at hgu
      split at h
      case h_2 => exact h.elim
      rename_i hb
      rw [Nat.blt_eq] at hb
      have hgu : env.get t = some (.bool b) := hgu
      obtain ⟨hne, htm⟩ := slot_bool he hgu
      have hval : a.tmps.getD t undef = .bool (b.den ρ) := by rw [Array.getD_eq_getD_getElem?, htm]; rfl
      cases hbv : b.den ρ with
      | true => exact hg.ops _ (o :: rest) _ _ _ _ (h.1 hbv) j _ _ Q hi (he.same hb (by rw [hval, hbv]; rfl)) hQ
      | false => exact hg.ops _ (o :: rest) _ _ _ _ (h.2 hbv) j _ _ Q hi (he.same hb (by rw [hval, hbv]; rfl)) hQ
    · exact h.elim

/-! ### Statements -/
theorem CodeQ.later {j' : J} {H' : Heap} {k : KC} {ex : Exit} {a' : Act} {w' : World} (hs : St j H j' H') (h : CodeQ ρ w0 j' H' N k ex a' w') : CodeQ ρ w0 j H N k ex a' w' := by
  obtain ⟨x, env', H2, j2, h0, h1, h2, h3, h4⟩ := h
  exact ⟨x, env', H2, j2, h0, h1, h2, hs.trans h3, h4⟩

theorem thenK_ok (hg : Good P ρ w0 n rec) {b : Code} {k : KC} {ex : Exit} {a' : Act} {w' : World} (h : CodeQ ρ w0 j H N (thenK rec b N k) ex a' w') : Exit.then (b.wp P (CodeQ ρ w0 j H N k)) (CodeQ ρ w0 j H N k) ex a' w' := by
  obtain ⟨x, env', H2, j2, rfl, h1, h2, h3, h4⟩ := h
  cases x with
  | normal => exact wp_mono (hg.code _ _ _ _ _ h4 j2 _ _ h2 h1) fun e a w hh => hh.later h3
  | exit id => exact ⟨.exit id, env', H2, j2, rfl, h1, h2, h3, h4⟩
  | ret => exact ⟨.ret, env', H2, j2, rfl, h1, h2, h3, h4⟩


theorem rounds_mono {c : Code} {Q Q' : Exit → Act → World → Prop} (hq : ∀ e a w, Q e a w → Q' e a w) : ∀ (n : Nat) (a : Act) (w : World), Code.rounds P c Q n a w → Code.rounds P c Q' n a w
  | 0, _, _, h => h
  | n + 1, _, _, h => wp_mono h fun e a w hh => by
      cases e with
      | normal => exact rounds_mono hq n a w hh
      | _ => exact hq _ _ _ hh

theorem loop_ok (hg : Good P ρ w0 n rec) {c : Code} {k : KC} (h : Ob.den ρ (stepCode P rec (.loop c) N env H k)) (hi : Inv ρ w0 j H w) (he : ER ρ j N env a) : Code.rounds P c (CodeQ ρ w0 j H N k) (n + 1) a w := by
  refine wp_mono (hg.code _ _ _ _ _ h j a w hi he) fun ex a' w' hh => ?_
  obtain ⟨x, env', H2, j2, rfl, h1, h2, h3, h4⟩ := hh
  cases x with
  | normal => exact rounds_mono (fun e a w hh => hh.later h3) n _ _ (hg.loop _ _ _ _ _ h4 j2 _ _ h2 h1)
  | exit id => exact ⟨.exit id, env', H2, j2, rfl, h1, h2, h3, h4⟩
  | ret => exact ⟨.ret, env', H2, j2, rfl, h1, h2, h3, h4⟩

/-- What is still to be shown of a region that draws. -/
def PlanOk (P : Program) (ρ : Val) (w0 : World) (rec : Task → Ob) : Prop :=
  ∀ (id : Nat) (ops : Array Oper) (N : Nat) (env : T AV) (H : Heap) (k : KC) (j : J) (a : Act) (w : World), Ob.den ρ (sRegion P id ops true rec N env H k) → Inv ρ w0 j H w → ER ρ j N env a → (Code.region id ops true).wp P (CodeQ ρ w0 j H N k) a w

theorem code_ok (hg : Good P ρ w0 n rec) (hp : PlanOk P ρ w0 rec) {c : Code} {k : KC} (h : Ob.den ρ (stepCode P rec c N env H k)) (hi : Inv ρ w0 j H w) (he : ER ρ j N env a) : c.wp P (CodeQ ρ w0 j H N k) a w := by
  cases c <;> simp only [stepCode] at h <;> try (exact h.elim)
  case skip => exact wp_skip ⟨.normal, env, H, j, rfl, he, hi, St.refl j H, h⟩
  case region id ops draw =>
    cases draw with
    | false =>
      refine wp_region_list (hg.ops _ _ _ _ _ _ h j a w _ hi he fun a' w' hh => ?_)
      obtain ⟨env', H', j', h1, h2, h3, h4⟩ := hh
      exact ⟨.normal, env', H', j', rfl, h1, h2, h3, h4⟩
    | true => exact hp _ _ _ _ _ _ _ _ _ h hi he
  case seq x y => exact wp_seq (wp_mono (hg.code _ _ _ _ _ h j a w hi he) fun ex a' w' hh => thenK_ok hg hh)
  case cond c x y =>
    unfold sCond at h
    split at h
    case h_2 => exact h.elim
    rename_i s hs
    have hv := opd_sound he hs
    split at h
    · exact wp_cond_true hv (hg.code _ _ _ _ _ h j a w hi he)
    · exact wp_cond_false hv (hg.code _ _ _ _ _ h j a w hi he)
    · split at h
      case h_2 => exact h.elim
      rename_i t
      split at h
      case h_2 => exact h.elim
      rename_i hb
      rw [Nat.blt_eq] at hb
      have hval : a.tmps.getD t undef = .bool (s.den ρ) := hv
      refine wp_cond_split hv (fun hbv => ?_) (fun hbv => ?_)
      · exact hg.code _ _ _ _ _ (h.1 hbv) j a w hi (he.same hb (by rw [hval, hbv]; rfl))
      · exact hg.code _ _ _ _ _ (h.2 hbv) j a w hi (he.same hb (by rw [hval, hbv]; rfl))
  case block id c =>
    refine wp_block (wp_mono (hg.code _ _ _ _ _ h j a w hi he) fun ex a' w' hh => ?_)
    obtain ⟨x, env', H2, j2, rfl, h1, h2, h3, h4⟩ := hh
    cases x with
    | normal => exact ⟨.normal, env', H2, j2, rfl, h1, h2, h3, h4⟩
    | exit id' =>
      unfold blockK at h4
      show if id' = id then _ else _
      simp only at h4
      split at h4
      · rename_i hb
        rw [if_pos (natBeq hb)]
        exact ⟨.normal, env', H2, j2, rfl, h1, h2, h3, h4⟩
      · rename_i hb
        rw [if_neg (fun e => by subst e; rw [Nat.beq_refl] at hb; cases hb)]
        exact ⟨.exit id', env', H2, j2, rfl, h1, h2, h3, h4⟩
    | ret => exact ⟨.ret, env', H2, j2, rfl, h1, h2, h3, h4⟩
  case loop c => exact wp_loop_rounds (n + 1) (loop_ok hg h hi he)
  case exit id => exact wp_exit ⟨.exit id, env, H, j, rfl, he, hi, St.refl j H, h⟩
  case label l => exact wp_label ⟨.normal, env, H, j, rfl, he, hi, St.refl j H, h⟩
  case ret => exact wp_ret ⟨.ret, env, H, j, rfl, he, hi, St.refl j H, h⟩


/-! ### Calls -/
def resOf (tmps : Array Value) : ResultVar → Sem Value
  | .tmp t => pure (tmps.getD t undef)
  | .cell b t => do loadVar t (← asAddr (tmps.getD b undef))
theorem results_eq (fn : Func) (tmps : Array Value) : results fn tmps = (do let vs ← fn.results.mapM (resOf tmps); pure (if h : vs.size = 1 then vs[0] else .tuple vs)) := by
  unfold results
  congr 2
theorem results_ok (hi : Inv ρ w0 j H w) (he : ER ρ j N env a) : ∀ {l : List ResultVar} {vs : List AV}, resultsA P H env l = some vs →
    ∃ us : List Value, (l.mapM (resOf a.tmps)).run P w = .ok us w ∧ RL ρ j vs us
  | [], vs, h => by
    unfold resultsA at h
    cases h
    exact ⟨[], by simp, rfl⟩
  | .tmp t :: l, vs, h => by
    unfold resultsA at h
    split at h
    case h_2 => cases h
    rename_i v m hv hm
    cases h
    obtain ⟨us, h1, h2⟩ := results_ok hi he hm
    have h3 := opd_sound he hv
    refine ⟨a.tmps.getD t undef :: us, ?_, .cons h3 h2⟩
    simp only [List.mapM_cons, resOf, Sem.run_bind, Sem.run_pure, Result.andThen_ok, h1]
  | .cell b t :: l, vs, h => by
    unfold resultsA at h
    split at h
    case h_2 => cases h
    rename_i v m hv hm
    cases h
    obtain ⟨us, h1, h2⟩ := results_ok hi he hm
    obtain ⟨u, h3, h4⟩ := light_sound (o := { dst := none, op := .load t (.tmp b), type := t, pos := "", after := #[], guard := none }) hi he hv
    have h5 : (do loadVar t (← asAddr (a.tmps.getD b undef)) : Sem Value).run P w = .ok u w := by
      have h3 : (Instr.loadAt t (a.tmps.getD b undef)).run P w = .ok u w := by
        simp only [execOp, Sem.run_bind] at h3
        change ((Instr.loadAt t (a.tmps.getD b undef)).run P w).andThen _ = _ at h3
        cases hr : (Instr.loadAt t (a.tmps.getD b undef)).run P w with
        | ok u' w' => rw [hr] at h3; simp only [Result.andThen_ok, Sem.run_pure] at h3; cases h3; rfl
        | halt x w' => rw [hr] at h3; cases h3
      generalize a.tmps.getD b undef = q at h3 ⊢
      unfold Instr.loadAt at h3
      cases q <;> first | (simp [Instr.sureAddr, stuck, Sem.run_bind, Sem.run, Result.andThen] at h3; done) | skip
      rename_i p
      cases p with
      | none => simp [Instr.sureAddr, stuck, Sem.run_bind, Sem.run, Result.andThen] at h3
      | some p => simpa [Instr.sureAddr, asAddr, Sem.run_bind] using h3
    refine ⟨u :: us, ?_, .cons h4 h2⟩
    have h5 : (resOf a.tmps (.cell b t)).run P w = .ok u w := h5
    simp only [List.mapM_cons, Sem.run_bind, h5, Sem.run_pure, Result.andThen_ok, h1]

theorem result_ok (hi : Inv ρ w0 j H w) (he : ER ρ j N env a) {fn : Func} {v : AV} (h : resultA P fn H env = some v) : ∃ u, (results fn a.tmps).run P w = .ok u w ∧ R ρ j v u := by
  unfold resultA at h
  have key : ∀ us : List Value, (fn.results.toList.mapM (resOf a.tmps)).run P w = .ok us w →
      (results fn a.tmps).run P w = .ok (if h : us.length = 1 then us[0] else .tuple us.toArray) w := fun us hu => by
    rw [results_eq, Array.mapM_eq_mapM_toList, map_eq_pure_bind]
    simp only [Sem.run_bind, hu, Result.andThen_ok, Sem.run_pure]
    simp
  split at h
  · rename_i v' hv
    cases h
    obtain ⟨us, h1, h2⟩ := results_ok hi he hv
    obtain ⟨u, m, rfl, h3, h4⟩ := h2
    have e : m = [] := h4
    subst e
    exact ⟨u, by rw [key _ h1]; rfl, h3⟩
  · rename_i l hne hv
    cases h
    obtain ⟨us, h1, h2⟩ := results_ok hi he hv
    have hlen := h2.length
    refine ⟨_, key _ h1, ?_⟩
    rw [dif_neg (fun e => by
      rw [hlen] at e
      match l, e with
      | [x], _ => exact hne x rfl)]
    exact ⟨us, rfl, h2⟩
  · cases h


theorem envGet_envOf : ∀ (l : List AV) (i : Nat) (env : T AV) (t : Nat), envGet (envOf l i env) t = if i ≤ t then (match l[t - i]? with | some v => v | none => envGet env t) else envGet env t
  | [], i, env, t => by simp [envOf]
  | a :: l, i, env, t => by
    unfold envOf
    rw [envGet_envOf l (Nat.succ i) (env.set i a) t, envGet_set]
    by_cases h1 : i + 1 ≤ t
    · rw [if_pos (show Nat.succ i ≤ t from h1), if_pos (show i ≤ t by omega), if_neg (show ¬ t = i by omega)]
      obtain ⟨d, hd⟩ : ∃ d, t - i = d + 1 := ⟨t - i - 1, by omega⟩
      rw [hd, List.getElem?_cons_succ, show t - Nat.succ i = d by omega]
    · rw [if_neg (show ¬ Nat.succ i ≤ t from h1)]
      by_cases h2 : t = i
      · subst h2; simp
      · rw [if_neg h2, if_neg (show ¬ i ≤ t by omega)]

theorem envGet_leaf (t : Nat) : envGet .leaf t = undefA := rfl

theorem enter_ER {args : List AV} {vals : List Value} {m : Nat} (hv : RL ρ j args vals) (h1 : args.length ≤ m) (h2 : m ≤ dslot) : ER ρ j m (envOf args 0 .leaf) { tmps := vals.toArray ++ Array.replicate (m - vals.toArray.size) undef, defers := [] } := by
  have hl := hv.length
  refine ⟨by simp [hl]; omega, h2, fun t ht => ?_, ?_⟩
  · rw [envGet_envOf, if_pos (Nat.zero_le t), Nat.sub_zero, envGet_leaf]
    cases ha : args[t]? with
    | some v =>
      obtain ⟨u, h3, h4⟩ := hv.get t v ha
      have : t < vals.toArray.size := by have := (List.getElem?_eq_some_iff.1 h3).1; simpa using this
      rw [Array.getD_eq_getD_getElem?, Array.getElem?_append_left this, List.getElem?_toArray, h3]
      exact h4
    | none =>
      have : vals.toArray.size ≤ t := by have := List.getElem?_eq_none_iff.1 ha; simp; omega
      rw [Array.getD_eq_getD_getElem?, Array.getElem?_append_right this, Array.getElem?_replicate]
      have e : (if t - vals.toArray.size < m - vals.toArray.size then some undef else none).getD undef = undef := by split <;> rfl
      rw [e]
      exact R_undef
  · show DR ρ j (envGet (envOf args 0 .leaf) dslot) []
    rw [envGet_envOf, if_pos (Nat.zero_le _), Nat.sub_zero, envGet_leaf, List.getElem?_eq_none (by omega)]
    rfl

theorem bodyOf_eq {f : FuncId} {fn : Func} {c : Code} (h : bodyOf P f = some (fn, c)) : P.funcs[f]? = some fn ∧ fn.body = some c ∧ fn.name ≠ "runtime.NumGoroutine" := by
  unfold bodyOf at h
  split at h
  · cases h
  rename_i fn' hf
  split at h
  · cases h
  rename_i c' hc
  split at h
  · cases h
  rename_i hn
  cases h
  exact ⟨hf, hc, hn⟩

theorem leave_ok (hi : Inv ρ w0 j H w) (he : ER ρ j N env a) {fn : Func} {k : K} (h : Ob.den ρ (leave P fn env k H)) : ∃ u v, (results fn a.tmps).run P w = .ok u w ∧ R ρ j v u ∧ Ob.den ρ (k v H) := by
  unfold leave at h
  split at h
  case h_2 => exact h.elim
  rename_i v hv
  obtain ⟨u, h1, h2⟩ := result_ok hi he hv
  exact ⟨u, v, h1, h2, h⟩

theorem DR.none {v : AV} {ds : List Deferred} (h : DR ρ j v ds) (hv : v = undefA) : ds = [] := by
  cases ds with
  | nil => rfl
  | cons d ds => obtain ⟨_, _, _, _, e, _⟩ := h; rw [hv] at e; cases e

theorem defers_ok (hg : Good P ρ w0 n rec) {fn : Func} {tmps : Array Value} {R' : Ending → World → Prop} {fin : Heap → Ob} : ∀ (m : Nat) (d : AV) (ds : List Deferred) (j : J) (H : Heap) (w : World),
    Ob.den ρ (runDefers P rec fin m d H) → DR ρ j d ds → Inv ρ w0 j H w → (∀ j' H' w', Inv ρ w0 j' H' w' → St j H j' H' → Ob.den ρ (fin H') → ∃ v, (results fn tmps).run P w' = .ok v w' ∧ R' (.returned v) w') → Leaves P fn tmps R' ds .returning w
  | 0, d, ds, j, H, w, h, _, _, _ => h.elim
  | m + 1, d, ds, j, H, w, h, hd, hi, hfin => by
    unfold runDefers at h
    cases ds with
    | nil =>
      have e : d = .tup [] := hd
      subst e
      exact hfin j H w hi (St.refl j H) h
    | cons d' ds =>
      obtain ⟨g, args, rest, cap, rfl, htar, hargs, hrest⟩ := hd
      simp only at h
      split at h
      · exact h.elim
      rename_i fn' c hb
      obtain ⟨h1, h2, h3⟩ := bodyOf_eq hb
      split at h
      case h_2 => exact h.elim
      rename_i hsz
      rw [Bool.and_eq_true] at hsz
      have hs1 := Nat.le_of_ble_eq_true hsz.1
      have hs2 := Nat.le_of_ble_eq_true hsz.2
      have hwp := hg.code _ _ _ _ _ h j { tmps := (d'.args ++ cap).toList.toArray ++ Array.replicate (fn'.ntmps - (d'.args ++ cap).toList.toArray.size) undef, defers := [] } w hi (enter_ER hargs hs1 hs2)
      refine ⟨by simp, .func g, cap, g, (d'.args ++ cap).toList.toArray, htar, ?_, ?_⟩
      · rw [htar]
        simp only [invoke]
        exact run_callFunc ⟨fn', c, h1, h2, h3⟩ _
      · refine CallsD.mono (callsD_of_wp (u := .returning) (R := fun e w' => match e with | .returned _ => Leaves P fn tmps R' ds .returning w' | _ => False) h1 h2 (wp_mono hwp fun ex a' w' hh => ?_)) (fun e u' w' hh => ?_)
        · obtain ⟨x, env', H2, j2, rfl, g1, g2, g3, g4⟩ := hh
          have fine : ∀ (_ : Ob.den ρ (match env'.get dslot with | none => leave P fn' env' (fun _ H' => runDefers P rec fin m rest H') H2 | some _ => .bad 57 fn'.name)),
              a'.defers = [] ∧ ∃ v, (results fn' a'.tmps).run P w' = .ok v w' ∧ Leaves P fn tmps R' ds .returning w' := by
            intro g4
            split at g4
            case h_2 => exact g4.elim
            rename_i hnone
            obtain ⟨u, v, q1, q2, q3⟩ := leave_ok g2 g1 g4
            refine ⟨g1.dfr.none (by unfold envGet; rw [hnone]), u, q1, ?_⟩
            exact defers_ok hg m rest ds j2 H2 w' q3 (hrest.mono g3.sub) g2 fun j' H' w'' e1 e2 e3 => hfin j' H' w'' e1 (g3.trans e2) e3
          cases x with
          | normal => exact fine g4
          | exit id => exact g4.elim
          | ret => exact fine g4
        · obtain ⟨rfl, hh⟩ := hh
          cases e with
          | returned v => exact hh
          | panicked c => exact hh.elim
          | outgrown => exact hh.elim

def OrcOk (P : Program) (ρ : Val) (w0 : World) (orc : FuncId → List AV → Heap → Option (List (AV × Heap))) : Prop :=
  ∀ f args H l, orc f args H = some l → Enters P f ∧ ∀ k, Ob.den ρ (forkAll k l) → CallOk P ρ w0 f args H k

theorem call_step (hg : Good P ρ w0 n rec) {orc : FuncId → List AV → Heap → Option (List (AV × Heap))} (hor : OrcOk P ρ w0 orc) {f : FuncId} {args : List AV} (h : Ob.den ρ (stepCall P orc rec f args H k)) : Enters P f ∧ CallOk P ρ w0 f args H k := by
  unfold stepCall at h
  split at h
  · rename_i l hl
    exact ⟨(hor _ _ _ _ hl).1, (hor _ _ _ _ hl).2 k h⟩
  split at h
  · exact h.elim
  rename_i fn c hb
  obtain ⟨h1, h2, h3⟩ := bodyOf_eq hb
  split at h
  case h_2 => exact h.elim
  rename_i hsz
  rw [Bool.and_eq_true] at hsz
  have hs1 := Nat.le_of_ble_eq_true hsz.1
  have hs2 := Nat.le_of_ble_eq_true hsz.2
  refine ⟨⟨fn, c, h1, h2, h3⟩, fun j w vals hi hv => ?_⟩
  refine calls_of_wp_defers h1 h2 (wp_mono (hg.code _ _ _ _ _ h j _ w hi (enter_ER hv hs1 hs2)) fun ex a' w' hh => ?_)
  obtain ⟨x, env', H2, j2, rfl, g1, g2, g3, g4⟩ := hh
  have fine : ∀ (_ : Ob.den ρ (match env'.get dslot with | none => leave P fn env' k H2 | some d => runDefers P rec (leave P fn env' k) 8 d H2)),
      Leaves P fn a'.tmps (fun e w' => ∃ u, e = .returned u ∧ Post ρ w0 j H k u w') a'.defers .returning w' := by
    intro g4
    split at g4
    · rename_i hnone
      obtain ⟨u, v, q1, q2, q3⟩ := leave_ok g2 g1 g4
      rw [g1.dfr.none (by unfold envGet; rw [hnone])]
      exact ⟨u, q1, u, rfl, v, H2, j2, q2, g2, g3, q3⟩
    · rename_i d hd
      refine defers_ok hg 8 d a'.defers j2 H2 w' g4 (by have := g1.dfr; unfold envGet at this; rw [hd] at this; exact this) g2 fun j' H' w'' e1 e2 e3 => ?_
      obtain ⟨u, v, q1, q2, q3⟩ := leave_ok e1 (g1.mono e2.sub) e3
      exact ⟨u, q1, u, rfl, v, H', j', q2, e1, g3.trans e2, q3⟩
  cases x with
  | normal => exact fine g4
  | exit id => exact g4.elim
  | ret => exact fine g4


theorem ev_good {orc : FuncId → List AV → Heap → Option (List (AV × Heap))} (hor : OrcOk P ρ w0 orc) (hp : ∀ n rec, Good P ρ w0 n rec → PlanOk P ρ w0 rec) : ∀ n, Good P ρ w0 n (ev P orc n)
  | 0 => ⟨fun _ _ _ _ h => h.elim, fun _ _ _ _ _ h => h.elim, fun _ _ _ _ _ h => h.elim, fun _ _ _ _ _ _ h => h.elim⟩
  | n + 1 => by
    have ih := ev_good hor hp n
    refine ⟨fun f args H k h => call_step ih hor h, fun c N env H k h j a w hi he => code_ok ih (hp n _ ih) h hi he, fun c N env H k h j a w hi he => loop_ok ih h hi he, fun all l N env H k h j a w Q hi he hQ => ops_ok ih h hi he hQ⟩

end
end Go.Dw
