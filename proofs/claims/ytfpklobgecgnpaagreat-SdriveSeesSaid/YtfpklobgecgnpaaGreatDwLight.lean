/-
  DwLight: the operations that leave the heap alone: what the abstract machine yields stands for what the model's yields.
-/
import Derived.Test.YtfpklobgecgnpaaGreatDwMem
import Derived.Test.YtfpklobgecgnpaaGreatDwSym
import Derived.Laws.StructEq
import Derived.Laws.Strings
namespace Go.Dw
set_option linter.unusedSimpArgs false
set_option linter.unusedVariables false

/-- The deferred calls, the last one first. -/
def DR (ρ : Val) (j : J) : AV → List Deferred → Prop
  | v, [] => v = .tup []
  | v, d :: ds => ∃ g args rest cap, v = .tup [.func g [] args, rest] ∧ d.target = .fn (.func g) cap ∧ RL ρ j args (d.args ++ cap).toList ∧ DR ρ j rest ds

noncomputable def envGet (env : T AV) (t : Nat) : AV := match env.get t with | some v => v | none => undefA

/-- The slots. -/
structure ER (ρ : Val) (j : J) (N : Nat) (env : T AV) (a : Act) : Prop where
  size : a.tmps.size = N
  le : N ≤ dslot
  get : ∀ t, t ≠ dslot → R ρ j (envGet env t) (a.tmps.getD t undef)
  dfr : DR ρ j (envGet env dslot) a.defers

theorem DR.mono {ρ : Val} {j j' : J} (h : Sub j j') : ∀ {ds : List Deferred} {v : AV}, DR ρ j v ds → DR ρ j' v ds
  | [], _, r => r
  | _ :: _, _, r => let ⟨g, args, rest, cap, e1, e2, e3, e4⟩ := r; ⟨g, args, rest, cap, e1, e2, e3.mono h, DR.mono h e4⟩
theorem ER.mono {ρ : Val} {j j' : J} {N : Nat} {env : T AV} {a : Act} (h : ER ρ j N env a) (hs : Sub j j') : ER ρ j' N env a :=
  ⟨h.size, h.le, fun t ht => (h.get t ht).mono hs, h.dfr.mono hs⟩

section
variable {P : Program} {ρ : Val} {w0 : World} {j : J} {H : Heap} {w : World} {N : Nat} {env : T AV} {a : Act}

theorem opd_sound (he : ER ρ j N env a) {x : Operand} {v : AV} (h : opd env x = some v) : R ρ j v (a.eval x) := by
  unfold opd at h
  split at h
  · rename_i t
    split at h
    · rename_i hb
      rw [Nat.blt_eq] at hb
      have := he.get t (by omega)
      unfold envGet at this
      show R ρ j v (a.tmps.getD t undef)
      split at h <;> cases h <;> simp_all
    · cases h
  · exact R_ofValue h
  · cases h; exact ⟨[], [], rfl, rfl, rfl⟩
  · cases h
theorem opds_sound (he : ER ρ j N env a) : ∀ {xs : List Operand} {vs : List AV}, opds env xs = some vs → RL ρ j vs (xs.map a.eval)
  | [], vs, h => by unfold opds at h; cases h; rfl
  | x :: xs, vs, h => by
    unfold opds at h
    split at h
    · cases h
    · rename_i v hv
      split at h
      · cases h
      · rename_i m hm
        cases h
        exact ⟨_, _, rfl, opd_sound he hv, opds_sound he hm⟩
theorem natA_sound (he : ER ρ j N env a) {x : Operand} {n : Nat} (h : natA env x = some n) : ∃ k, a.eval x = .int k (n : Int) := by
  unfold natA at h
  split at h
  · rename_i k m hx
    cases h
    exact ⟨k, opd_sound he hx⟩
  · cases h

/-- What is to be shown of each. -/
def LS (P : Program) (ρ : Val) (j : J) (w : World) (a : Act) (o : Oper) (v : AV) : Prop := ∃ v', (execOp a.eval o).run P w = .ok (.value v') w ∧ R ρ j v v'

variable {o : Oper} {v : AV}

theorem lMove_sound (he : ER ρ j N env a) {x : Operand} (ho : o.op = .move x ∨ o.op = .assign x) (h : lMove x env H = some v) : LS P ρ j w a o v := by
  refine ⟨a.eval x, ?_, opd_sound he h⟩
  rcases ho with ho | ho <;> simp only [execOp, ho, Sem.run_pure]

theorem lPick_sound (he : ER ρ j N env a) {c x y : Operand} (ho : o.op = .pick c x y) (h : lPick c x y env H = some v) : LS P ρ j w a o v := by
  unfold lPick at h
  split at h
  · rename_i hc
    have h1 := opd_sound he hc
    refine ⟨a.eval x, ?_, opd_sound he h⟩
    simp only [R, SB.den] at h1
    simp [execOp, ho, h1, asBool]
  · rename_i hc
    have h1 := opd_sound he hc
    refine ⟨a.eval y, ?_, opd_sound he h⟩
    simp only [R, SB.den] at h1
    simp [execOp, ho, h1, asBool]
  · cases h

theorem nthA_eq : ∀ (l : List AV) (i : Nat), nthA l i = l[i]?
  | [], i => by simp [nthA]
  | a :: l, 0 => rfl
  | a :: l, i + 1 => by show nthA l i = _; rw [nthA_eq l i]; simp

theorem lExtract_sound (he : ER ρ j N env a) {x : Operand} {i : Nat} (ho : o.op = .extract x i) (h : lExtract x i env H = some v) : LS P ρ j w a o v := by
  unfold lExtract at h
  split at h
  · rename_i l hx
    obtain ⟨m, h1, h2⟩ := opd_sound he hx
    rw [nthA_eq] at h
    obtain ⟨u, h3, h4⟩ := h2.get i v h
    refine ⟨u, ?_, h4⟩
    simp [execOp, ho, h1, Instr.extract, h3]
  · cases h

theorem lNilCheck_sound (he : ER ρ j N env a) {x : Operand} (ho : o.op = .nilCheck x) (h : lNilCheck x env H = some v) : LS P ρ j w a o v := by
  unfold lNilCheck at h
  split at h
  · cases h
  · cases h
  · cases h
  · rename_i h1 h2 h3
    have hr := opd_sound he h
    refine ⟨a.eval x, ?_, hr⟩
    simp only [execOp, ho]
    cases v <;> simp only [R] at hr
    case nilp => exact absurd h h1
    case nili => exact absurd h h2
    case nilf => exact absurd h h3
    case str => obtain ⟨_, e⟩ := hr; rw [e]; rfl
    case ptr => obtain ⟨L, _, e⟩ := hr; rw [e]; rfl
    case sl => obtain ⟨L, _, _, e⟩ := hr; rw [e]; rfl
    case emp => obtain ⟨L, c, e⟩ := hr; rw [e]; rfl
    case slu => obtain ⟨b, l, c, e, _⟩ := hr; rw [e]; rfl
    case sla => obtain ⟨b, l, c, e⟩ := hr; rw [e]; rfl
    case map => obtain ⟨L, _, e⟩ := hr; rw [e]; rfl
    case func => obtain ⟨l, m, e, _, _⟩ := hr; rw [e]; rfl
    case iface => obtain ⟨y, e, _⟩ := hr; rw [e]; rfl
    case agg => obtain ⟨m, e, _⟩ := hr; rw [e]; rfl
    case tup => obtain ⟨m, e, _⟩ := hr; rw [e]; rfl
    all_goals rw [hr]; rfl

theorem szOf_eq {t : TypeId} {n : Nat} (h : szOf P t = some n) : ∃ i, P.info? t = some i ∧ i.size = n := by
  unfold szOf at h
  split at h
  · rename_i i hi; cases h; exact ⟨i, hi, rfl⟩
  · cases h
theorem run_sizeOf {t : TypeId} {n : Nat} (h : szOf P t = some n) : (sizeOf t).run P w = .ok n w := by
  obtain ⟨i, h1, h2⟩ := szOf_eq h
  simp [sizeOf, typeInfo, h1, h2]
theorem run_underlying {t : TypeId} {d : TypeDesc} (h : P.underlying t = some d) : (underlying t).run P w = .ok d w := by
  simp [underlying, h]
theorem run_isAgg {t : TypeId} {b : Bool} (h : isAggA P t = some b) : (isAgg t).run P w = .ok b w := by
  unfold isAggA at h
  split at h
  · rename_i hu; cases h; simp [isAgg, run_underlying hu]
  · rename_i hu; cases h; simp [isAgg, run_underlying hu]
  · rename_i d h1 h2 hu
    cases h
    simp only [isAgg, Sem.run_bind, run_underlying hu, Result.andThen_ok]
    cases d <;> first | rfl | (exact absurd hu (h1 _)) | (exact absurd hu (h2 _ _))
  · cases h

theorem lFieldAddr_sound (he : ER ρ j N env a) {t : TypeId} {x : Operand} {f : Nat} (ho : o.op = .fieldAddr t x f) (h : lFieldAddr P t x f env H = some v) : LS P ρ j w a o v := by
  unfold lFieldAddr at h
  split at h
  · rename_i off n p hf hx
    cases h
    obtain ⟨L, h1, h2⟩ := opd_sound he hx
    unfold fieldPtr at hf
    split at hf
    · rename_i fd hfd
      split at hf
      · rename_i k hs
        cases hf
        unfold fieldOf at hfd
        split at hfd
        · rename_i fs hu
          refine ⟨.pointer (some ⟨L.blk, L.off + (p + fd.offset), none⟩), ?_, L, h1, rfl⟩
          simp only [execOp, ho, h2, Instr.fieldAt, Sem.run_bind, run_underlying hu, Result.andThen_ok, hfd, Instr.sureAddr, Sem.run_pure, fieldPlace, run_sizeOf hs]
          simp [addr_add, Nat.add_assoc]
        · cases hfd
      · cases hf
    · cases hf
  · cases h

/-- Reading a variable. -/
theorem loadAt_sound (hi : Inv ρ w0 j H w) {t : TypeId} {n off : Nat} {L : Loc} {r : Vec} {v : AV} (hj : j n = some L) (hr : H.row n = some r) (h : loadAt (loadKind P t) r off = some v) :
    ∃ v', (loadVar t ⟨L.blk, L.off + off, none⟩).run P w = .ok v' w ∧ R ρ j v v' := by
  unfold loadKind at h
  split at h
  · rename_i s ha hs
    unfold loadAt at h
    simp only at h
    split at h
    · rename_i hb
      cases h
      rw [Nat.blt_eq] at hb
      obtain ⟨x, h1, h2⟩ := hi.cell hj hr hb
      exact ⟨x, by simp [loadVar, run_isAgg ha, h1], h2⟩
    · cases h
  · rename_i s ha hs
    unfold loadAt at h
    simp only at h
    split at h
    · rename_i hb
      cases h
      have hb : off + s ≤ r.n := Nat.le_of_ble_eq_true hb
      obtain ⟨xs, h1, h2⟩ := hi.loadCells (P := P) hj hr hb
      exact ⟨.agg xs.toArray, by simp [loadVar, run_isAgg ha, run_sizeOf hs, h1], xs, rfl, h2⟩
    · cases h
  · simp [loadAt] at h

theorem lLoad_sound (hi : Inv ρ w0 j H w) (he : ER ρ j N env a) {t : TypeId} {x : Operand} (ho : o.op = .load t x) (h : lLoad P t x env H = some v) : LS P ρ j w a o v := by
  unfold lLoad at h
  split at h
  · rename_i n off hx
    obtain ⟨L, h1, h2⟩ := opd_sound he hx
    split at h
    · rename_i r hr
      obtain ⟨v', h3, h4⟩ := loadAt_sound (P := P) hi h1 hr h
      refine ⟨v', ?_, h4⟩
      simp only [execOp, ho, h2, Instr.loadAt, Sem.run_bind, Instr.sureAddr, Sem.run_pure, Result.andThen_ok, h3]
    · cases h
  · cases h

/-! ### Arithmetic and tests -/
theorem mkCmp_den (o : BinOp) (x y : SE) : (mkCmp o x y).den ρ = cmpOp o (x.den ρ) (y.den ρ) := by
  unfold mkCmp
  split
  · simp [SB.den, SE.den, cmpF_eq]
  · exact sCmp_den o _ _
theorem mkNot_den (b : SB) : (mkNot b).den ρ = !(b.den ρ) := by
  unfold mkNot; split <;> simp [SB.den]
theorem mkBeq_den (x y : SB) : (mkBeq x y).den ρ = (x.den ρ == y.den ρ) := by
  unfold mkBeq; split <;> simp [SB.den, mkNot_den]
theorem mkAnd_den (x y : SB) : (mkAnd x y).den ρ = (x.den ρ && y.den ρ) := by
  unfold mkAnd; split <;> simp [SB.den]
theorem mkWrap_den (k : IntKind) (x : SE) : (mkWrap k x).den ρ = k.wrap (x.den ρ) := by
  unfold mkWrap
  split
  · rename_i n
    have e := wrapF_eq k n
    split <;> simp_all [forceN_eq, SE.den]
  · exact sWrap_den k _

theorem intF_ok {o : BinOp} {k : IntKind} {x y z : Int} (h : intF o k x y = some z) : isCmp o = false ∧ (o = .quo ∨ o = .rem → y ≠ 0) ∧ (isShift o = true → 0 ≤ y) := by
  cases o <;> simp only [intF] at h <;> try (cases h; done)
  case quo => refine ⟨rfl, fun _ hy => ?_, fun hh => by cases hh⟩; subst hy; simp [eqI] at h
  case rem => refine ⟨rfl, fun _ hy => ?_, fun hh => by cases hh⟩; subst hy; simp [eqI] at h
  case shl => refine ⟨rfl, fun hh => by simp at hh, fun _ => ?_⟩; split at h; · exact Int.natCast_nonneg _
              · cases h
  case shr => refine ⟨rfl, fun hh => by simp at hh, fun _ => ?_⟩; split at h; · exact Int.natCast_nonneg _
              · cases h
  all_goals exact ⟨rfl, (fun hh => by simp at hh), fun hh => by cases hh⟩

theorem mkInt_ok {o : BinOp} {k : IntKind} {x y c : SE} (h : mkInt o k x y = some c) :
    c.den ρ = intOp o k (x.den ρ) (y.den ρ) ∧ isCmp o = false ∧ (o = .quo ∨ o = .rem → y.den ρ ≠ 0) ∧ (isShift o = true → 0 ≤ y.den ρ) := by
  unfold mkInt at h
  split at h
  · rename_i n m
    split at h
    · rename_i z hz
      rw [forceN_eq] at h; cases h
      exact ⟨(intF_eq hz).symm, intF_ok hz⟩
    · rename_i z hz
      rw [forceN_eq] at h; cases h
      exact ⟨(intF_eq hz).symm, intF_ok hz⟩
    · cases h
  · rename_i m _
    split at h
    all_goals first | (cases h; done) | skip
    case h_8 =>
      split at h
      · cases h
      · rename_i hq
        cases h
        refine ⟨sBin_den _ _ _ _, rfl, fun _ hy => ?_, fun hh => by cases hh⟩
        simp only [SE.den] at hy
        rw [hy] at hq; simp [eqI] at hq
    case h_9 =>
      split at h
      · cases h
      · rename_i hq
        cases h
        refine ⟨sBin_den _ _ _ _, rfl, fun _ hy => ?_, fun hh => by cases hh⟩
        simp only [SE.den] at hy
        rw [hy] at hq; simp [eqI] at hq
    case h_10 =>
      split at h
      · cases h; exact ⟨sBin_den _ _ _ _, rfl, (fun hh => by simp at hh), fun _ => by simp [SE.den]⟩
      · cases h
    case h_11 =>
      split at h
      · cases h; exact ⟨sBin_den _ _ _ _, rfl, (fun hh => by simp at hh), fun _ => by simp [SE.den]⟩
      · cases h
    all_goals (cases h; exact ⟨sBin_den _ _ _ _, rfl, (fun hh => by simp at hh), fun hh => by cases hh⟩)
  · split at h
    all_goals first | (cases h; done) | (cases h; exact ⟨sBin_den _ _ _ _, rfl, (fun hh => by simp at hh), fun hh => by cases hh⟩)

theorem run_binOp_int {o : BinOp} {t : TypeId} {k k' : IntKind} {x y : Int} (hk : isShift o = false → k = k') (hc : isCmp o = false) (h0 : o = .quo ∨ o = .rem → y ≠ 0) (hs : isShift o = true → 0 ≤ y) :
    (binOp o t (.int k x) (.int k' y)).run P w = .ok (.int k (intOp o k x y)) w := by
  cases o <;> simp only [isCmp, Bool.true_eq_false] at hc
  case shl =>
    have := hs rfl
    simp only [binOp, Op.shift, if_neg (show ¬ y < 0 by omega)]
    rfl
  case shr =>
    have := hs rfl
    simp only [binOp, Op.shift, if_neg (show ¬ y < 0 by omega)]
    rfl
  case quo => obtain rfl := hk rfl; simp [binOp, Op.intDiv, h0 (.inl rfl), intOp]
  case rem => obtain rfl := hk rfl; simp [binOp, Op.intDiv, h0 (.inr rfl), intOp]
  all_goals
    obtain rfl := hk rfl
    simp [binOp, Op.intArith, Op.intBits, intOp, bitsOp]

theorem run_binOp_cmp {o : BinOp} {t : TypeId} {k : IntKind} {x y : Int} (hc : isCmp o = true) :
    (binOp o t (.int k x) (.int k y)).run P w = .ok (.bool (cmpOp o x y)) w := by
  cases o <;> simp only [isCmp, Bool.false_eq_true] at hc <;> simp [binOp, Op.intCmp, cmpOp]

/-- Two values neither of which is a struct's or an array's, or whose type asks for no guard; not two nil interfaces. -/
theorem run_eqGuard {o : BinOp} {t : TypeId} {x y : Operand} {u v : Value} (h1 : u = .nilIface → v = .nilIface → (match isC x with | true => true | false => isC y) = true) (h2 : ∀ xs ys, u = .agg xs → v = .agg ys → P.eqGuardType P.depth t = false) :
    (eqGuard o t x y u v).run P w = .ok () w := by
  unfold eqGuard
  cases o
  case eql =>
    simp only [Bool.not_true, Bool.false_eq_true, if_false]
    split
    · have := h1 rfl rfl
      cases x <;> cases y <;> first | rfl | (simp [isC] at this)
    · have := h2 _ _ rfl rfl
      simp [this]
    · rfl
  case neq =>
    simp only [Bool.not_true, Bool.false_eq_true, if_false]
    split
    · have := h1 rfl rfl
      cases x <;> cases y <;> first | rfl | (simp [isC] at this)
    · have := h2 _ _ rfl rfl
      simp [this]
    · rfl
  all_goals rfl

/-! ### Equality by the type -/
theorem RL.take : ∀ {n : Nat} {l m : List AV} {vs : List Value}, RL ρ j l vs → takeN n l = some m → RL ρ j m (vs.take n) ∧ n ≤ vs.length
  | 0, l, m, vs, _, h => by unfold takeN at h; cases h; exact ⟨rfl, Nat.zero_le _⟩
  | n + 1, [], m, vs, _, h => by unfold takeN at h; cases h
  | n + 1, x :: l, m, _, r, h => by
    obtain ⟨v, vs, rfl, r1, r2⟩ := r
    unfold takeN at h
    split at h
    · rename_i m' hm
      cases h
      obtain ⟨h1, h2⟩ := RL.take r2 hm
      exact ⟨⟨_, _, by simp, r1, h1⟩, by simp; omega⟩
    · cases h
theorem RL.drop : ∀ {n : Nat} {l : List AV} {vs : List Value}, RL ρ j l vs → RL ρ j (dropN n l) (vs.drop n)
  | 0, l, vs, r => by unfold dropN; simpa using r
  | n + 1, [], vs, r => by have e : vs = [] := r; subst e; unfold dropN; simpa using r
  | n + 1, x :: l, _, r => by
    obtain ⟨v, vs, rfl, r1, r2⟩ := r
    unfold dropN; simpa using RL.drop r2

theorem partA_sound {t : TypeId} {cs : List AV} {vs : Array Value} {off : Nat} {x : AV} (h : partA P t cs off = some x) (hr : RL ρ j cs vs.toList) :
    ∃ y, (part t vs off).run P w = .ok y w ∧ R ρ j x y := by
  unfold partA at h
  split at h
  · rename_i n ha hs
    split at h
    · rename_i l hl
      cases h
      obtain ⟨h1, h2⟩ := RL.take (hr.drop (n := off)) hl
      refine ⟨.agg (vs.extract off (off + n)), by simp only [part, Sem.run_bind, run_isAgg ha, Result.andThen_ok, if_true, run_sizeOf hs, Sem.run_pure], (vs.extract off (off + n)).toList, by rw [Array.toArray_toList], ?_⟩
      have e : (vs.toList.drop off).take n = (vs.extract off (off + n)).toList := by
        simp [Array.toList_extract, List.extract_eq_take_drop]
      rw [e] at h1
      exact h1
    · cases h
  · rename_i ha
    split at h
    · rename_i x' l hl
      cases h
      have h1 := hr.drop (n := off)
      rw [hl] at h1
      obtain ⟨v, m, h2, h3, _⟩ := h1
      have h4 : vs[off]? = some v := by
        have : (vs.toList.drop off)[0]? = some v := by rw [h2]; rfl
        simpa using this
      exact ⟨v, by simp [part, run_isAgg ha, h4], h3⟩
    · cases h
  · cases h

/-- The two rows do not lie over one another. -/
theorem apart_sound (hi : Inv ρ w0 j H w) {n m : Nat} {L M : Loc} (hn : j n = some L) (hm : j m = some M) (h : apartA H n m = true) :
    L.blk ≠ M.blk ∧ (∃ a e, w.heap[L.blk]? = some (.cells a e (0, 0))) ∧ (∃ a e, w.heap[M.blk]? = some (.cells a e (0, 0))) := by
  unfold apartA at h
  split at h
  case h_2 => cases h
  rename_i v1 e1 g1 c1 s1 v2 e2 g2 c2 s2 h1 h2
  split at h
  · cases h
  · rename_i hg
    split at h
    case h_2 => cases h
    rename_i r1 r2 hr1 hr2
    have base : ∀ k Lk v e g c s, j k = some Lk → H.m.get k = some (.cells v e g c s true) → w0.heap.size ≤ Lk.blk := fun k Lk v e g c s ek hk => by
      obtain ⟨o, h3, h4⟩ := hi.obj k Lk ek
      rw [hk] at h3; cases h3
      have := h4.1; rwa [if_pos rfl] at this
    refine ⟨fun hb => ?_, ?_, ?_⟩
    · have hne : n ≠ m := fun e => by subst e; rw [h1] at h2; cases h2; rw [Nat.beq_refl] at hg; cases hg
      obtain ⟨_, _, _, _, _, _, _, _, _, _, _, _, h3, h4, h5, h6⟩ := hi.sep n m L M hne hn hm hb
      rw [h1] at h3; rw [h2] at h4; cases h3; cases h4
      have := (h6 rfl).1
      subst this; rw [Nat.beq_refl] at hg; cases hg
    · obtain ⟨arr, e, fr, h3, _⟩ := hi.row hn hr1
      have := hi.fz _ _ hn (base n L _ _ _ _ _ hn h1) _ _ _ h3
      subst this; exact ⟨arr, e, h3⟩
    · obtain ⟨arr, e, fr, h3, _⟩ := hi.row hm hr2
      have := hi.fz _ _ hm (base m M _ _ _ _ _ hm h2) _ _ _ h3
      subst this; exact ⟨arr, e, h3⟩

theorem run_sameAddr_apart {p q : Addr} (h : p.block ≠ q.block) {a1 a2 : Array Value} {e1 e2 : TypeId} (h1 : w.heap[p.block]? = some (.cells a1 e1 (0, 0))) (h2 : w.heap[q.block]? = some (.cells a2 e2 (0, 0))) :
    (sameAddr p q).run P w = .ok false w := by
  have hb : (p.block == q.block) = false := by simpa using h
  have f1 : ∀ i, w.frozen? ⟨p.block, i, none⟩ = false := fun i => by simp [World.frozen?, h1]
  have f2 : ∀ i, w.frozen? ⟨q.block, i, none⟩ = false := fun i => by simp [World.frozen?, h2]
  have f1' : w.frozen? p = false := by simp [World.frozen?, h1]
  have f2' : w.frozen? q = false := by simp [World.frozen?, h2]
  have s1 : w.shape? p.block = some (e1, a1.size) := by simp [World.shape?, h1]
  have s2 : w.shape? q.block = some (e2, a2.size) := by simp [World.shape?, h2]
  simp [sameAddr, hb, f1', f2', noView, viewAt, s1, s2, mayBeOne, stringish, f1, f2]

theorem uByte_inj {a b : List Nat} (ha : ∀ x ∈ a, x < 256) (hb : ∀ x ∈ b, x < 256) (h : a.map UInt8.ofNat = b.map UInt8.ofNat) : a = b := by
  have key : ∀ l : List Nat, (∀ x ∈ l, x < 256) → (l.map UInt8.ofNat).map (·.toNat) = l := fun l hl => by
    rw [List.map_map]
    conv => rhs; rw [← List.map_id l]
    apply List.map_congr_left
    intro x hx
    simp only [Function.comp, UInt8.toNat_ofNat', id]
    have := hl x hx
    omega
  rw [← key a ha, h, key b hb]
theorem bytes_beq {a b : List Nat} (ha : ∀ x ∈ a, x < 256) (hb : ∀ x ∈ b, x < 256) :
    ((⟨(a.map UInt8.ofNat).toArray⟩ : ByteArray) == ⟨(b.map UInt8.ofNat).toArray⟩) = natsBeq a b := by
  show ((a.map UInt8.ofNat).toArray == (b.map UInt8.ofNat).toArray) = _
  rw [natsBeq_iff, Bool.eq_iff_iff]
  simp only [beq_iff_eq, decide_eq_true_eq]
  constructor
  · intro h
    exact uByte_inj ha hb (by simpa using congrArg Array.toList h)
  · rintro rfl; rfl

/-- What 'eqA' finds is what the model finds. -/
def EqS (P : Program) (ρ : Val) (j : J) (w : World) (d : Nat) (t : TypeId) (x y : AV) (b : SB) : Prop :=
  ∀ u v, R ρ j x u → R ρ j y v → (Op.equalIn d t u v).run P w = .ok (b.den ρ) w

def fieldStep (d : Nat) (us vs : Array Value) (f : Field) (_ : Option Bool × Unit) : Sem (ForInStep (Option Bool × Unit)) :=
  if f.name ≠ "_" then do
    let x ← part f.type us f.offset
    let y ← part f.type vs f.offset
    let r ← Op.equalIn d f.type x y
    if (!r) = true then pure (ForInStep.done (some false, ())) else pure (ForInStep.yield (none, ()))
  else pure (ForInStep.yield (none, ()))

theorem eqFields_sound {eq : TypeId → AV → AV → Option SB} {d : Nat} (heq : ∀ t x y b, eq t x y = some b → EqS P ρ j w d t x y b) {us vs : Array Value} {xs ys : List AV} (hx : RL ρ j xs us.toList) (hy : RL ρ j ys vs.toList) :
    ∀ (fs : List Field) (b : SB), eqFields P eq fs xs ys = some b →
      (forIn fs ((none, ()) : Option Bool × Unit) (fieldStep d us vs)).run P w = .ok (if b.den ρ = true then (none, ()) else (some false, ())) w
  | [], b, h => by unfold eqFields at h; cases h; simp [SB.den]
  | f :: fs, b, h => by
    unfold eqFields at h
    rw [List.forIn_cons]
    simp only [Sem.run_bind]
    by_cases hn : f.name = "_"
    · rw [if_pos hn] at h
      have ih := eqFields_sound heq hx hy fs b h
      simp only [fieldStep, hn, ne_eq, not_true_eq_false, if_false, Sem.run_pure, Result.andThen_ok]
      exact ih
    · rw [if_neg hn] at h
      split at h
      case h_2 => cases h
      rename_i x y h1 h2
      obtain ⟨u, h3, h4⟩ := partA_sound (P := P) (w := w) h1 hx
      obtain ⟨v, h5, h6⟩ := partA_sound (P := P) (w := w) h2 hy
      split at h
      · cases h
      · rename_i c hc
        split at h
        case h_2 => cases h
        rename_i d' hd
        cases h
        have ih := eqFields_sound heq hx hy fs d' hd
        have e := heq _ _ _ _ hc u v h4 h6
        simp only [fieldStep, hn, ne_eq, not_false_eq_true, if_true, Sem.run_bind, h3, h5, e, Result.andThen_ok, mkAnd_den]
        cases hcd : c.den ρ
        · simp
        · simp only [Bool.not_true, Bool.false_eq_true, if_false, Sem.run_pure, Result.andThen_ok, Bool.true_and]
          exact ih

def elemStep (d : Nat) (e : TypeId) (n : Nat) (us vs : Array Value) (i : Nat) (_ : Option Bool × Unit) : Sem (ForInStep (Option Bool × Unit)) := do
  let x ← part e us (i * n)
  let y ← part e vs (i * n)
  let r ← Op.equalIn d e x y
  if (!r) = true then pure (ForInStep.done (some false, ())) else pure (ForInStep.yield (none, ()))

theorem eqElems_sound {eq : AV → AV → Option SB} {d s : Nat} {e : TypeId} (heq : ∀ x y b, eq x y = some b → EqS P ρ j w d e x y b) {us vs : Array Value} {xs ys : List AV} (hx : RL ρ j xs us.toList) (hy : RL ρ j ys vs.toList) :
    ∀ (n i : Nat) (b : SB), eqElems P eq e s n i xs ys = some b →
      (forIn (List.range' i n) ((none, ()) : Option Bool × Unit) (elemStep d e s us vs)).run P w = .ok (if b.den ρ = true then (none, ()) else (some false, ())) w
  | 0, i, b, h => by unfold eqElems at h; cases h; simp [SB.den]
  | n + 1, i, b, h => by
    unfold eqElems at h
    rw [List.range'_succ, List.forIn_cons]
    simp only [Sem.run_bind]
    split at h
    case h_2 => cases h
    rename_i x y h1 h2
    obtain ⟨u, h3, h4⟩ := partA_sound (P := P) (w := w) h1 hx
    obtain ⟨v, h5, h6⟩ := partA_sound (P := P) (w := w) h2 hy
    split at h
    · cases h
    · rename_i c hc
      split at h
      case h_2 => cases h
      rename_i d' hd
      cases h
      have ih := eqElems_sound heq hx hy n (i + 1) d' hd
      have e := heq _ _ _ hc u v h4 h6
      simp only [elemStep, Sem.run_bind, h3, h5, e, Result.andThen_ok, mkAnd_den]
      cases hcd : c.den ρ
      · simp
      · simp only [Bool.not_true, Bool.false_eq_true, if_false, Sem.run_pure, Result.andThen_ok, Bool.true_and]
        exact ih

theorem eqA_sound (hi : Inv ρ w0 j H w) : ∀ (f d : Nat) (t : TypeId) (x y : AV) (b : SB), f ≤ d → eqA P H f t x y = some b → EqS P ρ j w d t x y b
  | 0, d, t, x, y, b, _, h => by unfold eqA at h; cases h
  | f + 1, 0, t, x, y, b, hd, h => by omega
  | f + 1, d + 1, t, x, y, b, hd, h => by
    intro u v hu hv
    have ih := fun t x y b (h : eqA P H f t x y = some b) => eqA_sound hi f d t x y b (by omega) h
    unfold eqA at h
    unfold Op.equalIn
    split at h
    · rename_i ht
      simp only [Sem.run_bind, run_underlying ht, Result.andThen_ok]
      split at h
      case h_2 => cases h
      cases h; simp only [R] at hu hv; subst hu hv
      simp [mkBeq_den]
    · rename_i k ht
      simp only [Sem.run_bind, run_underlying ht, Result.andThen_ok]
      split at h
      case h_2 => cases h
      split at h
      case h_2 => cases h
      rename_i hk
      have := kn_inj hk
      subst this
      cases h; simp only [R] at hu hv; subst hu hv
      simp [mkCmp_den, cmpOp]
    · rename_i ht
      simp only [Sem.run_bind, run_underlying ht, Result.andThen_ok]
      split at h
      case h_2 => cases h
      cases h; simp only [R] at hu hv
      obtain ⟨h1, rfl⟩ := hu
      obtain ⟨h2, rfl⟩ := hv
      simp [bytes_beq h1 h2, SB.den]
    · rename_i e ht
      simp only [Sem.run_bind, run_underlying ht, Result.andThen_ok]
      split at h
      · cases h; simp only [R] at hu hv; subst hu hv; rfl
      · cases h; simp only [R] at hu hv; subst hu; obtain ⟨L, _, rfl⟩ := hv; rfl
      · cases h; simp only [R] at hu hv; subst hv; obtain ⟨L, _, rfl⟩ := hu; rfl
      · rename_i n p m q
        obtain ⟨L, hL, rfl⟩ := hu
        obtain ⟨M, hM, rfl⟩ := hv
        split at h
        case h_2 => cases h
        rename_i k hs
        simp only [Sem.run_bind, run_sizeOf hs, Result.andThen_ok, Nat.succ_ne_zero, ne_eq, not_false_eq_true, if_true]
        split at h
        · rename_i hnm
          have := natBeq hnm
          subst this
          rw [hL] at hM; cases hM
          cases h
          have e2 : ((⟨L.blk, L.off + p, none⟩ : Addr) == ⟨L.blk, L.off + q, none⟩) = Nat.beq p q := by
            rw [Bool.eq_iff_iff]; simp [Nat.beq_eq]
          simp [sameAddr, e2, SB.den]
        · split at h
          case h_2 => cases h
          rename_i hap
          cases h
          obtain ⟨h1, ⟨a1, e1, h2⟩, ⟨a2, e2, h3⟩⟩ := apart_sound hi hL hM hap
          exact run_sameAddr_apart h1 h2 h3
      · cases h
    · rename_i e ht
      simp only [Sem.run_bind, run_underlying ht, Result.andThen_ok]
      split at h
      · cases h; simp only [R] at hu hv; subst hu hv; rfl
      · cases h; simp only [R] at hu hv; subst hu; obtain ⟨L, _, _, rfl⟩ := hv; rfl
      · cases h; simp only [R] at hu hv; subst hu; obtain ⟨L, c, rfl⟩ := hv; rfl
      · cases h; simp only [R] at hu hv; subst hv; obtain ⟨L, _, _, rfl⟩ := hu; rfl
      · cases h; simp only [R] at hu hv; subst hv; obtain ⟨L, c, rfl⟩ := hu; rfl
      · cases h; simp only [R] at hu hv; subst hu; obtain ⟨L, l, c, rfl⟩ := hv; rfl
      · cases h; simp only [R] at hu hv; subst hv; obtain ⟨L, l, c, rfl⟩ := hu; rfl
      · cases h
    · rename_i e1 e2 ht
      simp only [Sem.run_bind, run_underlying ht, Result.andThen_ok]
      split at h
      · cases h; simp only [R] at hu hv; subst hu hv; rfl
      · cases h; simp only [R] at hu hv; subst hu; obtain ⟨L, _, rfl⟩ := hv; rfl
      · cases h; simp only [R] at hu hv; subst hv; obtain ⟨L, _, rfl⟩ := hu; rfl
      · cases h
    · rename_i e1 e2 e3 ht
      simp only [Sem.run_bind, run_underlying ht, Result.andThen_ok]
      split at h
      · cases h; simp only [R] at hu hv; subst hu hv; rfl
      · cases h; simp only [R] at hu hv; subst hu; obtain ⟨l, m, rfl, _, _⟩ := hv; rfl
      · cases h; simp only [R] at hu hv; subst hv; obtain ⟨l, m, rfl, _, _⟩ := hu; rfl
      · cases h
    · rename_i ms ht
      simp only [Sem.run_bind, run_underlying ht, Result.andThen_ok]
      split at h
      · cases h; simp only [R] at hu hv; subst hu hv; rfl
      · cases h; simp only [R] at hu hv; subst hu; obtain ⟨l, rfl, _⟩ := hv; rfl
      · cases h; simp only [R] at hu hv; subst hv; obtain ⟨l, rfl, _⟩ := hu; rfl
      · cases h
    · rename_i fs ht
      split at h
      case h_2 => cases h
      split at h
      · cases h
      · rename_i hst
        obtain ⟨us, rfl, h1⟩ := hu
        obtain ⟨vs, rfl, h2⟩ := hv
        have hloop := eqFields_sound (d := d) (fun t x y b h => ih t x y b h) (us := us.toArray) (vs := vs.toArray) (by simpa using h1) (by simpa using h2) fs.toList b h
        rw [Array.forIn_toList] at hloop
        simp only [Sem.run_bind, run_underlying ht, Result.andThen_ok, run_program, hst, Bool.false_eq_true, if_false]
        refine Eq.trans (congrArg (fun r => Result.andThen r _) hloop) ?_
        cases b.den ρ <;> rfl
    · rename_i len e ht
      split at h
      case h_2 => cases h
      split at h
      case h_2 => cases h
      rename_i s hs
      obtain ⟨us, rfl, h1⟩ := hu
      obtain ⟨vs, rfl, h2⟩ := hv
      have hloop := eqElems_sound (d := d) (fun x y b h => ih e x y b h) (us := us.toArray) (vs := vs.toArray) (by simpa using h1) (by simpa using h2) len 0 b h
      simp only [Sem.run_bind, run_underlying ht, Result.andThen_ok, run_sizeOf hs]
      rw [Std.Legacy.Range.forIn_eq_forIn_range']
      refine Eq.trans (congrArg (fun r => Result.andThen r _) (Eq.trans ?_ hloop)) ?_
      · simp only [Std.Legacy.Range.size, Nat.sub_zero, Nat.add_sub_cancel, Nat.div_one]; rfl
      · cases b.den ρ <;> rfl
    · cases h


/-- Strings of bytes. -/
def strOf (p : List Nat) : ByteArray := ⟨(p.map UInt8.ofNat).toArray⟩
theorem strOf_toList (p : List Nat) : (strOf p).toList = p.map UInt8.ofNat := ByteArray.toList_mk _
theorem strOf_size (p : List Nat) : (strOf p).size = p.length := by simp [strOf, ByteArray.size]
theorem strOf_append (p q : List Nat) : strOf p ++ strOf q = strOf (p ++ q) := by
  apply ByteArray.ext
  rw [ByteArray.data_append]
  simp [strOf]

theorem binInt_sound {op : BinOp} {t : TypeId} {k k' : IntKind} {p q : SE} {r : AV} (h : binInt op k k' p q = some r) :
    ∃ v', (binOp op t (.int k (p.den ρ)) (.int k' (q.den ρ))).run P w = .ok v' w ∧ R ρ j r v' := by
  unfold binInt at h
  split at h
  · rename_i hs
    split at h
    · rename_i c hc
      cases h
      obtain ⟨e1, e2, e3, e4⟩ := mkInt_ok (ρ := ρ) hc
      exact ⟨.int k (c.den ρ), by rw [run_binOp_int (by rw [hs]; simp) e2 e3 e4, e1], rfl⟩
    · cases h
  · split at h
    · rename_i hk
      obtain rfl := kn_inj hk
      split at h
      · rename_i hc
        cases h
        exact ⟨.bool ((mkCmp op p q).den ρ), by rw [run_binOp_cmp hc, mkCmp_den], rfl⟩
      · split at h
        · rename_i c hc
          cases h
          obtain ⟨e1, e2, e3, e4⟩ := mkInt_ok (ρ := ρ) hc
          exact ⟨.int k (c.den ρ), by rw [run_binOp_int (fun _ => rfl) e2 e3 e4, e1], rfl⟩
        · cases h
    · cases h

theorem binStr_sound {op : BinOp} {t : TypeId} {p q : List Nat} {r : AV} (h : binStr op p q = some r) (g1 : ∀ b ∈ p, b < 256) (g2 : ∀ b ∈ q, b < 256) :
    ∃ v', (binOp op t (.string (strOf p)) (.string (strOf q))).run P w = .ok v' w ∧ R ρ j r v' := by
  have heq : ((strOf p).toList == (strOf q).toList) = natsBeq p q := by rw [← beq_toListBytes]; exact bytes_beq g1 g2
  unfold binStr at h
  split at h
  · cases h
    exact ⟨.bool (natsBeq p q), by simp only [binOp, Op.stringOp, heq, Sem.run_pure], rfl⟩
  · cases h
    refine ⟨.bool (!(natsBeq p q)), by simp only [binOp, Op.stringOp, heq, Sem.run_pure], by cases natsBeq p q <;> rfl⟩
  · split at h
    · rename_i hb
      cases h
      rw [Nat.blt_eq] at hb
      have hb : p.length + q.length < 4611686018427387904 := hb
      refine ⟨.string (strOf p ++ strOf q), ?_, fun b hb => ?_, by rw [strOf_append]; rfl⟩
      · simp only [binOp, Op.stringOp]
        rw [if_neg, Sem.run_pure]
        simp only [strOf_size, IntKind.max, IntKind.signed, IntKind.bits]
        simp
        omega
      · rcases List.mem_append.1 hb with hb | hb
        · exact g1 b hb
        · exact g2 b hb
    · cases h
  · cases h

theorem binEq_sound (hi : Inv ρ w0 j H w) {op : BinOp} {t : TypeId} {a1 a2 r : AV} {u1 u2 : Value} (h : binEq P H op t a1 a2 = some r) (h1 : R ρ j a1 u1) (h2 : R ρ j a2 u2)
    (he : binOp .eql t u1 u2 = (do pure (.bool (← Op.equal t u1 u2)))) (hn : binOp .neq t u1 u2 = (do pure (.bool (!(← Op.equal t u1 u2))))) :
    ∃ v', (binOp op t u1 u2).run P w = .ok v' w ∧ R ρ j r v' := by
  unfold binEq at h
  split at h
  · split at h
    · rename_i b hb
      cases h
      have := eqA_sound hi 8 Op.maxDepth t a1 a2 b (by decide) hb u1 u2 h1 h2
      refine ⟨.bool (b.den ρ), ?_, rfl⟩
      rw [he]
      simp only [Sem.run_bind, Op.equal, this, Result.andThen_ok, Sem.run_pure]
    · cases h
  · split at h
    · rename_i b hb
      cases h
      have := eqA_sound hi 8 Op.maxDepth t a1 a2 b (by decide) hb u1 u2 h1 h2
      refine ⟨.bool (!(b.den ρ)), ?_, by rw [← mkNot_den]; rfl⟩
      rw [hn]
      simp only [Sem.run_bind, Op.equal, this, Result.andThen_ok, Sem.run_pure]
    · cases h
  · cases h

/-- A binary operation. -/
theorem binA_sound (hi : Inv ρ w0 j H w) {op : BinOp} {t : TypeId} {x y : Operand} {a1 a2 r : AV} {u1 u2 : Value} (h : binA P H (match isC x with | true => true | false => isC y) op t a1 a2 = some r) (h1 : R ρ j a1 u1) (h2 : R ρ j a2 u2) :
    ∃ v', (do eqGuard op t x y u1 u2; binOp op t u1 u2 : Sem Value).run P w = .ok v' w ∧ R ρ j r v' := by
  have glue : (eqGuard op t x y u1 u2).run P w = .ok () w → (∃ v', (binOp op t u1 u2).run P w = .ok v' w ∧ R ρ j r v') →
      ∃ v', (do eqGuard op t x y u1 u2; binOp op t u1 u2 : Sem Value).run P w = .ok v' w ∧ R ρ j r v' := fun hg ⟨v', e, hr⟩ =>
    ⟨v', by simp only [Sem.run_bind, hg, Result.andThen_ok, e], hr⟩
  cases a1 <;> simp only [binA] at h
  case int k p =>
    split at h
    · simp only [R] at h1 h2; subst h1 h2
      exact glue (run_eqGuard (by simp) (by simp)) (binInt_sound h)
    · cases h
  case str p =>
    split at h
    · obtain ⟨g1, rfl⟩ := h1
      obtain ⟨g2, rfl⟩ := h2
      exact glue (run_eqGuard (by simp) (by simp)) (binStr_sound h g1 g2)
    · cases h
  case nili =>
    split at h
    · rename_i hc
      have h1' := h1; simp only [R] at h1'; subst h1'; exact glue (run_eqGuard (fun _ _ => hc) (by simp)) (binEq_sound hi h h1 h2 rfl rfl)
    · cases h
  case agg l =>
    split at h
    · cases h
    · rename_i hgt
      have h1' := h1
      obtain ⟨m, rfl, _⟩ := h1'
      exact glue (run_eqGuard (by simp) (fun _ _ _ _ => hgt)) (binEq_sound hi h h1 h2 rfl rfl)
  case bool => have h1' := h1; simp only [R] at h1'; subst h1'; exact glue (run_eqGuard (by simp) (by simp)) (binEq_sound hi h h1 h2 rfl rfl)
  case nilp => have h1' := h1; simp only [R] at h1'; subst h1'; exact glue (run_eqGuard (by simp) (by simp)) (binEq_sound hi h h1 h2 rfl rfl)
  case ptr => have h1' := h1; obtain ⟨_, _, rfl⟩ := h1'; exact glue (run_eqGuard (by simp) (by simp)) (binEq_sound hi h h1 h2 rfl rfl)
  case nils => have h1' := h1; simp only [R] at h1'; subst h1'; exact glue (run_eqGuard (by simp) (by simp)) (binEq_sound hi h h1 h2 rfl rfl)
  case sl => have h1' := h1; obtain ⟨_, _, _, rfl⟩ := h1'; exact glue (run_eqGuard (by simp) (by simp)) (binEq_sound hi h h1 h2 rfl rfl)
  case emp => have h1' := h1; obtain ⟨_, _, rfl⟩ := h1'; exact glue (run_eqGuard (by simp) (by simp)) (binEq_sound hi h h1 h2 rfl rfl)
  case slu => have h1' := h1; obtain ⟨_, _, _, rfl, _⟩ := h1'; exact glue (run_eqGuard (by simp) (by simp)) (binEq_sound hi h h1 h2 rfl rfl)
  case sla => have h1' := h1; obtain ⟨_, _, _, rfl⟩ := h1'; exact glue (run_eqGuard (by simp) (by simp)) (binEq_sound hi h h1 h2 rfl rfl)
  case nilm => have h1' := h1; simp only [R] at h1'; subst h1'; exact glue (run_eqGuard (by simp) (by simp)) (binEq_sound hi h h1 h2 rfl rfl)
  case map => have h1' := h1; obtain ⟨_, _, rfl⟩ := h1'; exact glue (run_eqGuard (by simp) (by simp)) (binEq_sound hi h h1 h2 rfl rfl)
  case func => have h1' := h1; obtain ⟨_, _, rfl, _⟩ := h1'; exact glue (run_eqGuard (by simp) (by simp)) (binEq_sound hi h h1 h2 rfl rfl)
  case nilf => have h1' := h1; simp only [R] at h1'; subst h1'; exact glue (run_eqGuard (by simp) (by simp)) (binEq_sound hi h h1 h2 rfl rfl)
  case iface => have h1' := h1; obtain ⟨_, rfl, _⟩ := h1'; exact glue (run_eqGuard (by simp) (by simp)) (binEq_sound hi h h1 h2 rfl rfl)
  case tup => have h1' := h1; obtain ⟨_, rfl, _⟩ := h1'; exact glue (run_eqGuard (by simp) (by simp)) (binEq_sound hi h h1 h2 rfl rfl)

theorem lBinOp_sound (hi : Inv ρ w0 j H w) (he : ER ρ j N env a) {op : BinOp} {t t' : TypeId} {x y : Operand} (ho : o.op = .binOp op t x y t') (h : lBinOp P op t x y t' env H = some v) : LS P ρ j w a o v := by
  unfold lBinOp at h
  split at h
  · rename_i a1 a2 hx hy
    obtain ⟨v', h1, h2⟩ := binA_sound hi (x := x) (y := y) h (opd_sound he hx) (opd_sound he hy)
    refine ⟨v', ?_, h2⟩
    simp only [execOp, ho]
    rw [Sem.run_bind, h1]
    rfl
  · cases h

theorem lUnOp_sound (he : ER ρ j N env a) {op : UnOp} {t : TypeId} {x : Operand} (ho : o.op = .unOp op t x) (h : lUnOp op t x env H = some v) : LS P ρ j w a o v := by
  unfold lUnOp at h
  split at h
  case h_2 => cases h
  rename_i u hx
  have h1 := opd_sound he hx
  unfold unA at h
  split at h
  · rename_i b
    cases h
    simp only [R] at h1
    exact ⟨.bool (!(SB.den ρ b)), by simp only [execOp, ho, h1, Sem.run_bind, Op.unary, Sem.run_pure, Result.andThen_ok], by rw [← mkNot_den]; rfl⟩
  · split at h
    · rename_i c hc
      cases h
      simp only [R] at h1
      obtain ⟨e1, _⟩ := mkInt_ok (ρ := ρ) hc
      refine ⟨.int _ (c.den ρ), ?_, rfl⟩
      rw [e1]
      simp [execOp, ho, h1, Op.unary, Op.intArith, intOp, SE.den]
    · cases h
  · split at h
    · rename_i c hc
      cases h
      simp only [R] at h1
      obtain ⟨e1, _⟩ := mkInt_ok (ρ := ρ) hc
      refine ⟨.int _ (c.den ρ), ?_, rfl⟩
      rw [e1]
      simp only [execOp, ho, h1, Sem.run_bind, Op.unary, Op.intBits, intOp, bitsOp, SE.den, Sem.run_pure, Result.andThen_ok]
      rw [BitVec.xor_comm]
    · cases h
  · cases h

/-! ### Slices -/
theorem run_sliceBound {x : Operand} (he : ER ρ j N env a) {n y : Nat} (h : natA env x = some n) (hn : n ≤ y) (c : BoundsCode) : (Instr.sliceBound (a.eval x) y c).run P w = .ok n w := by
  obtain ⟨k, hk⟩ := natA_sound he h
  simp only [Instr.sliceBound, hk, asIntOf, Sem.run_bind, Sem.run_pure, Result.andThen_ok]
  rw [if_pos (by omega)]
  simp

theorem bounds_sound (he : ER ρ j N env a) {len cap l h m : Nat} {lo hi mx : Option Operand} (hb : bounds env len cap lo hi mx = some (l, h, m)) :
    l ≤ h ∧ h ≤ m ∧ m ≤ cap ∧ (mx = none → m = cap) ∧ ∀ (isS : Bool) (cap' : Nat), cap ≤ cap' →
      (Instr.sliceBounds isS len cap' (lo.map a.eval) (hi.map a.eval) (mx.map a.eval)).run P w = .ok (l, h, if mx.isSome then m else cap') w := by
  unfold bounds at hb
  split at hb
  · rename_i mo
    split at hb
    · cases hb
    · rename_i m1 hm1
      split at hb
      · cases hb
      · rename_i hmc
        have hmc := Nat.le_of_ble_eq_true hmc
        split at hb
        · cases hb
        · rename_i ho
          split at hb
          · cases hb
          · rename_i h1 hh1
            split at hb
            · cases hb
            · rename_i hhm
              have hhm := Nat.le_of_ble_eq_true hhm
              split at hb
              · cases hb
              · rename_i l1 hl1
                split at hb
                · rename_i hlh
                  have hlh := Nat.le_of_ble_eq_true hlh
                  cases hb
                  refine ⟨hlh, hhm, hmc, (fun hh => by cases hh), fun isS cap' hc => ?_⟩
                  simp only [Instr.sliceBounds, Option.map_some, Sem.run_bind, run_sliceBound he hm1 (Nat.le_trans hmc hc) _, Result.andThen_ok, run_sliceBound he hh1 hhm _, Option.isSome_some, if_true, Sem.run_pure]
                  cases lo with
                  | none => simp only [natO] at hl1; cases hl1; rfl
                  | some x => simp only [Option.map_some, Sem.run_bind, run_sliceBound he hl1 hlh, Result.andThen_ok, Sem.run_pure]
                · cases hb
  · split at hb
    · cases hb
    · rename_i h1 hh1
      split at hb
      · cases hb
      · rename_i hhc
        have hhc := Nat.le_of_ble_eq_true hhc
        split at hb
        · cases hb
        · rename_i l1 hl1
          split at hb
          · rename_i hlh
            have hlh := Nat.le_of_ble_eq_true hlh
            cases hb
            refine ⟨hlh, hhc, Nat.le_refl _, fun _ => rfl, fun isS cap' hc => ?_⟩
            have low : (match lo.map a.eval with
                | some v => do let l ← Instr.sliceBound v h .sliceB; pure (l, h, cap')
                | none => do let l ← pure 0; pure (l, h, cap') : Sem (Nat × Nat × Nat)).run P w = .ok (l, h, cap') w := by
              cases lo with
              | none => simp only [natO] at hl1; cases hl1; rfl
              | some x => simp only [Option.map_some, Sem.run_bind, run_sliceBound he hl1 hlh, Result.andThen_ok, Sem.run_pure]
            simp only [Instr.sliceBounds, Option.map_none, Sem.run_bind, Sem.run_pure, Result.andThen_ok, Option.isSome_none, Bool.false_eq_true, if_false]
            cases hi with
            | none =>
              simp only [natO] at hh1
              cases hh1
              simp only [Option.map_none, Sem.run_bind, Sem.run_pure, Result.andThen_ok]
              exact low
            | some x =>
              simp only [Option.map_some, Sem.run_bind, run_sliceBound he hh1 (Nat.le_trans hhc hc), Result.andThen_ok]
              exact low
          · cases hb

theorem elemSz_eq {t : TypeId} {s : Nat} (h : elemSz P t = some s) : ∃ e, P.underlying t = some (.slice e) ∧ szOf P e = some s := by
  unfold elemSz at h
  split at h
  · rename_i e hu; exact ⟨e, hu, h⟩
  · cases h
theorem arrOf_eq {t e : TypeId} {len s : Nat} (h : arrOf P t = some (len, e, s)) : P.underlying t = some (.array len e) ∧ szOf P e = some s := by
  unfold arrOf at h
  split at h
  · rename_i len' e' hu
    split at h
    · rename_i hs; cases h; exact ⟨hu, hs⟩
    · cases h
  · cases h
theorem isStrT_eq {t : TypeId} (h : isStrT P t = true) : P.underlying t = some .string := by
  unfold isStrT at h
  split at h
  · assumption
  · cases h

theorem R_cutA {b off s l h m : Nat} {L : Loc} (hj : j b = some L) (h1 : l ≤ h) (h2 : h ≤ m) :
    R ρ j (cutA b off s l h m) (.slice (some (if m = l then ⟨L.blk, L.off + off, none⟩ else (⟨L.blk, L.off + off, none⟩ : Addr).add (l * s))) (h - l) (m - l)) := by
  unfold cutA
  split
  · rename_i e
    have e := natBeq e
    subst e
    refine ⟨L, hj, ?_, ?_⟩
    · show h - m ≤ 0; omega
    · rw [if_pos rfl]; simp [capOf]
  · rename_i e
    have e : m ≠ l := fun hh => by subst hh; rw [Nat.beq_refl] at e; cases e
    refine ⟨L, hj, ?_, ?_⟩
    · show h - l ≤ m - l; omega
    · rw [if_neg e, addr_add]
      show _ = Value.slice (some ⟨L.blk, L.off + (off + l * s), none⟩) (h - l) (m - l)
      rw [Nat.add_assoc]

theorem R_cutU {b off s l h len k : Nat} {L : Loc} (hj : j b = some L) (h1 : l ≤ h) (h2 : h ≤ len) (h3 : k + len ≤ L.cap ∧ 0 < L.cap) :
    R ρ j (cutU b off s l h len k) (.slice (some (if L.cap - k = l then ⟨L.blk, L.off + off, none⟩ else (⟨L.blk, L.off + off, none⟩ : Addr).add (l * s))) (h - l) (L.cap - k - l)) := by
  unfold cutU
  split
  · rename_i e
    have e := natBeq e
    subst e
    refine ⟨L, hj, ?_, ?_⟩
    · exact ⟨by omega, h3.2⟩
    · have : (⟨L.blk, L.off + off, none⟩ : Addr).add (0 * s) = ⟨L.blk, L.off + off, none⟩ := by rw [addr_add]; simp
      rw [this]
      simp [capOf]
  · split
    · rename_i e
      rw [Nat.blt_eq] at e
      refine ⟨L, hj, ?_, ?_⟩
      · exact ⟨by show k + l + (h - l) ≤ L.cap; omega, h3.2⟩
      · rw [if_neg (by omega), addr_add]
        show _ = Value.slice (some ⟨L.blk, L.off + (off + l * s), none⟩) (h - l) (L.cap - (k + l))
        rw [Nat.add_assoc, Nat.sub_sub]
    · rename_i e
      have e : ¬ l < len := fun hh => by rw [← Nat.blt_eq] at hh; rw [hh] at e; cases e
      exact ⟨_, _, by rw [show h - l = 0 by omega]⟩

theorem boundsS_sound (he : ER ρ j N env a) {c : Nat} {lo hi : Option Operand} (hb : boundsS env c lo hi = true) :
    ∃ l h, l ≤ h ∧ h ≤ c ∧ ∀ (isS : Bool) (len cap' : Nat), c ≤ cap' →
      (Instr.sliceBounds isS len cap' (lo.map a.eval) (hi.map a.eval) none).run P w = .ok (l, h, cap') w := by
  unfold boundsS at hb
  split at hb
  case h_2 => cases hb
  rename_i l ho hl
  split at hb
  case h_2 => cases hb
  rename_i k e hoe
  split at hb
  case h_2 => cases hb
  rename_i p q hbn
  split at hb
  case h_2 => cases hb
  rename_i h1 h2
  have h1 := Nat.le_of_ble_eq_true h1
  have h2 := Nat.le_of_ble_eq_true h2
  obtain ⟨x, ex, x1, x2⟩ := bnd_den (ρ := ρ) hbn
  have hr : a.eval ho = .int k (e.den ρ) := opd_sound he hoe
  rw [ex] at hr
  have hh : ∀ y (cd : BoundsCode), x ≤ y → (Instr.sliceBound (a.eval ho) y cd).run P w = .ok x w := fun y cd hy => by
    simp only [Instr.sliceBound, hr, asIntOf, Sem.run_bind, Sem.run_pure, Result.andThen_ok]
    rw [if_pos (by simp only [Int.ofNat_eq_natCast]; omega)]
    simp
  refine ⟨l, x, by omega, by omega, fun isS len cap' hc => ?_⟩
  simp only [Instr.sliceBounds, Option.map_some, Option.map_none, Sem.run_bind, hh cap' _ (by omega), Result.andThen_ok, Sem.run_pure]
  cases lo with
  | none => simp only [natO] at hl; cases hl; rfl
  | some y => simp only [Option.map_some, Sem.run_bind, run_sliceBound he hl (show l ≤ x by omega), Result.andThen_ok, Sem.run_pure]

theorem sliceA_sound (hi : Inv ρ w0 j H w) (he : ER ρ j N env a) {t : TypeId} {x : AV} {u : Value} {lo hi' mx : Option Operand} {v : AV} (hx : R ρ j x u) (h : sliceA P env t x lo hi' mx = some v) :
    ∃ v', (Instr.sliceAt t u (lo.map a.eval) (hi'.map a.eval) (mx.map a.eval)).run P w = .ok v' w ∧ R ρ j v v' := by
  have plain : ∀ d, P.underlying t = some d → (∀ n e, d ≠ .array n e) → (Instr.sliceAt t u (lo.map a.eval) (hi'.map a.eval) (mx.map a.eval)).run P w = (Instr.slice t u (lo.map a.eval) (hi'.map a.eval) (mx.map a.eval)).run P w := fun d hd hn => by
    unfold Instr.sliceAt
    simp only [Sem.run_bind, run_underlying hd, Result.andThen_ok]
  cases x <;> simp only [sliceA] at h
  case str p =>
    split at h
    · rename_i hs
      split at h
      · rename_i l hh m hb
        cases h
        obtain ⟨g, rfl⟩ := hx
        have hu := isStrT_eq hs
        obtain ⟨h1, h2, h3, h4, h5⟩ := bounds_sound (P := P) (w := w) he hb
        have hm := h4 rfl
        subst hm
        have := h5 false p.length (Nat.le_refl _)
        refine ⟨.string ((strOf p).extract l hh), ?_, fun b hb => g b (List.mem_of_mem_drop (List.mem_of_mem_take hb)), ?_⟩
        · rw [plain _ hu (by simp)]
          unfold Instr.slice
          simp only [Sem.run_bind, run_underlying hu, Result.andThen_ok, Option.map_none, Option.isSome_none, Bool.false_eq_true, if_false]
          have e : (⟨(p.map UInt8.ofNat).toArray⟩ : ByteArray).size = p.length := strOf_size p
          rw [e]
          simp only [Option.map_none, Option.isSome_none, Bool.false_eq_true, if_false] at this
          rw [this]
          rfl
        · congr 1
          apply ByteArray.ext
          have : ((strOf p).extract l hh).data = (strOf p).data.extract l hh := by simp [ByteArray.data_extract]
          rw [this]
          simp only [strOf]
          apply Array.ext'
          simp [List.extract_eq_take_drop]
      · cases h
    · cases h
  case nils =>
    split at h
    · rename_i s q hs hb
      cases h
      obtain ⟨l, hh, m⟩ := q
      simp only [R] at hx; subst hx
      obtain ⟨e, hu, hs'⟩ := elemSz_eq hs
      obtain ⟨h1, h2, h3, h4, h5⟩ := bounds_sound (P := P) (w := w) he hb
      have := h5 true 0 (Nat.le_refl _)
      have e1 : l = 0 := by omega
      have e2 : hh = 0 := by omega
      have e3 : m = 0 := by omega
      subst e1 e2 e3
      refine ⟨.slice none 0 0, ?_, rfl⟩
      rw [plain _ hu (by simp)]
      unfold Instr.slice
      simp only [Sem.run_bind, run_underlying hu, Result.andThen_ok, this, run_sizeOf hs', Sem.run_pure]
      simp
    · cases h
  case emp =>
    split at h
    · rename_i s hs
      split at h
      · rename_i q hb
        cases h
        obtain ⟨l, hh, m⟩ := q
        obtain ⟨p, c, rfl⟩ := hx
        obtain ⟨e, hu, hs'⟩ := elemSz_eq hs
        obtain ⟨h1, h2, h3, h4, h5⟩ := bounds_sound (P := P) (w := w) he hb
        have := h5 true c (Nat.zero_le _)
        have e1 : l = 0 := by omega
        have e2 : hh = 0 := by omega
        subst e1 e2
        refine ⟨.slice (some p) 0 c, ?_, _, _, rfl⟩
        rw [plain _ hu (by simp)]
        unfold Instr.slice
        simp only [Sem.run_bind, run_underlying hu, Result.andThen_ok, this, run_sizeOf hs', Sem.run_pure]
        simp only [Option.isSome_none, Bool.false_eq_true, if_false, Nat.sub_zero, Option.map_some]
        by_cases hc : c = 0
        · rw [if_pos hc]
        · rw [if_neg hc]
          have : p.add (0 * s) = p := by unfold Addr.add; simp
          rw [this]
      · cases h
    · cases h
  case sl b off len cap =>
    split at h
    · rename_i s hs
      obtain ⟨L, hj, hck, rfl⟩ := hx
      obtain ⟨e, hu, hs'⟩ := elemSz_eq hs
      rw [plain _ hu (by simp)]
      unfold Instr.slice
      simp only [Sem.run_bind, run_underlying hu, Result.andThen_ok]
      unfold sliceSl at h
      split at h
      · rename_i c
        split at h
        · rename_i l hh m hb
          cases h
          obtain ⟨h1, h2, h3, h4, h5⟩ := bounds_sound (P := P) (w := w) he hb
          have := h5 true c (Nat.le_refl _)
          have e3 : (if mx.isSome = true then m else c) = m := by
            cases mx with
            | none => simp [h4 rfl]
            | some _ => rfl
          rw [e3] at this
          refine ⟨_, by simp only [capOf, this, run_sizeOf hs', Result.andThen_ok, Sem.run_bind, Sem.run_pure, Option.map_some, Option.map_none]; rfl, ?_⟩
          have := R_cutA (ρ := ρ) (s := s) hj h1 h2 (off := off)
          by_cases hm : m = l
          · rw [if_pos hm]; rw [if_pos hm] at this; exact this
          · rw [if_neg hm]; rw [if_neg hm] at this; exact this
        · split at h
          · rename_i hb
            cases h
            rename_i hbs
            obtain ⟨l, hh, h1, h2, h3⟩ := boundsS_sound (P := P) (w := w) he hbs
            have := h3 true len c (Nat.le_refl _)
            refine ⟨_, by simp only [capOf, this, run_sizeOf hs', Result.andThen_ok, Sem.run_bind, Sem.run_pure, Option.map_some, Option.map_none]; rfl, ?_⟩
            by_cases hm : c = l
            · exact ⟨_, _, _, by rw [if_pos hm]⟩
            · exact ⟨_, _, _, by rw [if_neg hm]⟩
          · cases h
      · rename_i k
        have hck : k + len ≤ L.cap ∧ 0 < L.cap := hck
        split at h
        · rename_i l hh m hb
          obtain ⟨h1, h2, h3, h4, h5⟩ := bounds_sound (P := P) (w := w) he hb
          have := h5 true (L.cap - k) (by omega)
          split at h
          · cases h
            simp only [Option.isSome_some, if_true, Option.map_some] at this
            refine ⟨_, by simp only [capOf, this, run_sizeOf hs', Result.andThen_ok, Sem.run_bind, Sem.run_pure, Option.map_some, Option.map_none]; rfl, ?_⟩
            have := R_cutA (ρ := ρ) (s := s) hj h1 h2 (off := off)
            by_cases hm : m = l
            · rw [if_pos hm]; rw [if_pos hm] at this; exact this
            · rw [if_neg hm]; rw [if_neg hm] at this; exact this
          · cases h
            simp only [Option.isSome_none, Bool.false_eq_true, if_false, Option.map_none] at this
            refine ⟨_, by simp only [capOf, this, run_sizeOf hs', Result.andThen_ok, Sem.run_bind, Sem.run_pure, Option.map_some, Option.map_none]; rfl, ?_⟩
            have hm := h4 rfl
            have := R_cutU (ρ := ρ) (s := s) hj h1 (Nat.le_trans h2 h3) hck (off := off)
            by_cases hm : L.cap - k = l
            · rw [if_pos hm]; rw [if_pos hm] at this; exact this
            · rw [if_neg hm]; rw [if_neg hm] at this; exact this
        · cases h
    · cases h
  case ptr b off =>
    split at h
    · rename_i n e s hs
      split at h
      · rename_i l hh m hb
        cases h
        obtain ⟨L, hj, rfl⟩ := hx
        obtain ⟨hu, hs'⟩ := arrOf_eq hs
        obtain ⟨h1, h2, h3, h4, h5⟩ := bounds_sound (P := P) (w := w) he hb
        have := h5 false n (Nat.le_refl _)
        have e3 : (if mx.isSome = true then m else n) = m := by
          cases mx with
          | none => simp [h4 rfl]
          | some _ => rfl
        rw [e3] at this
        unfold Instr.sliceAt
        refine ⟨_, by simp only [Sem.run_bind, run_underlying hu, Result.andThen_ok, Instr.sureAddr, Sem.run_pure, this, run_sizeOf hs']; rfl, ?_⟩
        exact R_cutA (ρ := ρ) (s := s) hj h1 h2 (off := off)
      · cases h
    · cases h
  all_goals cases h

theorem lSlice_sound (hi : Inv ρ w0 j H w) (he : ER ρ j N env a) {t : TypeId} {x : Operand} {lo hi' mx : Option Operand} (ho : o.op = .slice t x lo hi' mx) (h : lSlice P t x lo hi' mx env H = some v) : LS P ρ j w a o v := by
  unfold lSlice at h
  split at h
  · rename_i u hx
    obtain ⟨v', h1, h2⟩ := sliceA_sound hi he (opd_sound he hx) h
    refine ⟨v', ?_, h2⟩
    simp only [execOp, ho, Sem.run_bind, h1, Result.andThen_ok, Sem.run_pure]
  · cases h

/-! ### Conversions -/
theorem cellsA_sound (hi : Inv ρ w0 j H w) {sz n : Nat} {x : AV} {u : Value} {l : List AV} (hx : R ρ j x u) (h : cellsA H sz n x = some l) :
    ∃ xs : List Value, (Builtin.firstCells sz n u).run P w = .ok xs.toArray w ∧ RL ρ j l xs := by
  cases x <;> simp only [cellsA] at h
  case nils =>
    simp only [R] at hx; subst hx
    cases n with
    | zero => cases h; exact ⟨[], rfl, rfl⟩
    | succ n => cases h
  case emp =>
    obtain ⟨p, c, rfl⟩ := hx
    cases n with
    | zero => cases h; refine ⟨[], ?_, rfl⟩; simp [Builtin.firstCells, loadCells, loadCellsFrom]
    | succ n => cases h
  case str p =>
    obtain ⟨g, rfl⟩ := hx
    have key : ∀ (q : List Nat), (∀ b ∈ q, b < 256) → RL ρ j (byteAVs q) ((q.map UInt8.ofNat).map fun b => .int .u8 b.toNat) := by
      intro q
      induction q with
      | nil => intro _; rfl
      | cons b q ih =>
        intro hq
        refine ⟨_, _, rfl, ?_, ih fun c hc => hq c (List.mem_cons_of_mem _ hc)⟩
        have := hq b (List.mem_cons_self ..)
        simp only [R, SE.den]
        congr 1
        simp
        omega
    split at h
    case h_2 => cases h
    obtain ⟨h1, h2⟩ := (key p g).take h
    refine ⟨_, ?_, h1⟩
    simp only [Builtin.firstCells, Sem.run_pure]
    congr 1
    apply Array.ext'
    have : ((⟨(p.map UInt8.ofNat).toArray⟩ : ByteArray).extract 0 n).data = (p.map UInt8.ofNat).toArray.extract 0 n := by simp [ByteArray.data_extract]
    rw [this]
    simp [List.extract_eq_take_drop, List.map_take]
  case sl b off len cap =>
    split at h
    · cases h
    · split at h
      · cases h
      · rename_i r hr
        split at h
        · rename_i hb
          cases h
          have hb : off + n * sz ≤ r.n := Nat.le_of_ble_eq_true hb
          obtain ⟨L, hj, hck, rfl⟩ := hx
          exact hi.loadCells hj hr hb
        · cases h
  all_goals cases h

theorem lenA_sound {x : AV} {u : Value} {n : Nat} (hx : R ρ j x u) (h : lenA x = some n) : (Builtin.lenOf u).run P w = .ok n w ∧ ((∃ b c, u = .slice b n c) ∨ (∃ s, u = .string s ∧ s.size = n)) := by
  cases x <;> simp only [lenA] at h <;> try (cases h; done)
  case nils => simp only [R] at hx; subst hx; cases h; exact ⟨rfl, .inl ⟨_, _, rfl⟩⟩
  case emp => obtain ⟨p, c, rfl⟩ := hx; cases h; exact ⟨rfl, .inl ⟨_, _, rfl⟩⟩
  case str p => obtain ⟨g, rfl⟩ := hx; cases h; exact ⟨by simp [Builtin.lenOf, ByteArray.size], .inr ⟨_, rfl, by simp [ByteArray.size]⟩⟩
  case sl b off len cap => obtain ⟨L, hj, hck, rfl⟩ := hx; cases h; exact ⟨rfl, .inl ⟨_, _, rfl⟩⟩

theorem litBytes_eq : ∀ {l : List AV} {m : List Nat}, litBytes l = some m → (∀ b ∈ m, b < 256) ∧ l = byteAVs m
  | [], m, h => by unfold litBytes at h; cases h; exact ⟨by simp, rfl⟩
  | x :: l, m, h => by
    unfold litBytes at h
    split at h
    · cases ‹_ :: _ = []›
    · rename_i n l' heq
      cases heq
      split at h
      · rename_i hn
        split at h
        · rename_i m' hm
          cases h
          obtain ⟨h1, h2⟩ := litBytes_eq hm
          rw [Nat.blt_eq] at hn
          refine ⟨fun b hb => ?_, by rw [h2]; rfl⟩
          rcases List.mem_cons.1 hb with rfl | hb
          · exact hn
          · exact h1 b hb
        · cases h
      · cases h
    · cases h

theorem run_bytesLoop {msg : String} : ∀ (m : List Nat) (s : ByteArray) (xs : List Value), (∀ b ∈ m, b < 256) → RL ρ j (byteAVs m) xs →
    (forIn xs s (fun c s => do
      let .int .u8 n := c | stuck msg
      pure (ForInStep.yield (s.push (UInt8.ofNat n.toNat))) : Value → ByteArray → Sem (ForInStep ByteArray))).run P w = .ok (s ++ strOf m) w
  | [], s, xs, _, hr => by
    have e : xs = [] := hr
    subst e
    simp only [List.forIn_nil, Sem.run_pure]
    congr 1
    apply ByteArray.ext
    rw [ByteArray.data_append]
    simp [strOf]
  | b :: m, s, _, hb, hr => by
    obtain ⟨v, xs, rfl, hv, hr⟩ := hr
    simp only [R, SE.den] at hv
    subst hv
    have ih := run_bytesLoop (msg := msg) m (s.push (UInt8.ofNat b)) xs (fun c hc => hb c (List.mem_cons_of_mem _ hc)) hr
    rw [List.forIn_cons]
    simp only [Sem.run_bind, Sem.run_pure, Result.andThen_ok]
    have e : (Int.ofNat b).toNat = b := by simp
    rw [e, ih]
    congr 1
    apply ByteArray.ext
    rw [ByteArray.data_append, ByteArray.data_append]
    simp [strOf, ByteArray.data_push]

theorem convStr_sound (hi : Inv ρ w0 j H w) {src dst e : TypeId} {x : AV} {u : Value} (hs : P.underlying src = some (.slice e)) (hd : P.underlying dst = some .string) (hx : R ρ j x u) (h : convStr P H e x = some v) :
    ∃ v', (convert src dst u).run P w = .ok v' w ∧ R ρ j v v' := by
  unfold convStr at h
  split at h
  case h_2 => cases h
  rename_i he
  split at h
  · cases h
  · rename_i hns
    split at h
    · cases h
    · rename_i n hn
      split at h
      · cases h
      · rename_i l hl
        split at h
        case h_2 => cases h
        rename_i m hm
        cases h
        obtain ⟨hb, rfl⟩ := litBytes_eq hm
        obtain ⟨_, hcase⟩ := lenA_sound (P := P) (w := w) hx hn
        obtain ⟨xs, h1, h2⟩ := cellsA_sound (P := P) hi hx hl
        rcases hcase with ⟨b, c, rfl⟩ | ⟨s, rfl, _⟩
        · refine ⟨.string (strOf m), ?_, hb, rfl⟩
          have hrun : (convert src dst (.slice b n c)).run P w = (Conv.bytesToString (.slice b n c)).run P w := by
            unfold convert
            simp only [Sem.run_bind, run_underlying hs, run_underlying hd, Result.andThen_ok, run_underlying he]
          rw [hrun]
          cases b with
          | none =>
            have e0 : xs = [] := by
              simp only [Builtin.firstCells, Sem.run_pure] at h1
              have := congrArg (fun r => match r with | Result.ok (x : Array Value) _ => x.toList | _ => []) h1
              simpa using this.symm
            subst e0
            have : m = [] := by
              cases m with
              | nil => rfl
              | cons b m => obtain ⟨_, _, hh, _⟩ := h2; cases hh
            subst this
            rfl
          | some p =>
            simp only [Builtin.firstCells, Nat.mul_one] at h1
            have hl := fun msg => run_bytesLoop (P := P) (w := w) (msg := msg) m ByteArray.empty xs hb h2
            simp only [← List.forIn_toArray] at hl
            simp only [Conv.bytesToString, Sem.run_bind, h1, Result.andThen_ok]
            refine Eq.trans (congrArg (fun r => Result.andThen r _) (hl _)) ?_
            simp
        · exfalso
          cases x <;> simp only [R] at hx
          case str => exact hns _ rfl
          case ptr => obtain ⟨_, _, hh⟩ := hx; cases hh
          case sl => obtain ⟨_, _, _, hh⟩ := hx; cases hh
          case emp => obtain ⟨_, _, hh⟩ := hx; cases hh
          case slu => obtain ⟨_, _, _, hh, _⟩ := hx; cases hh
          case sla => obtain ⟨_, _, _, hh⟩ := hx; cases hh
          case map => obtain ⟨_, _, hh⟩ := hx; cases hh
          case func => obtain ⟨_, _, hh, _⟩ := hx; cases hh
          case iface => obtain ⟨_, hh, _⟩ := hx; cases hh
          case agg => obtain ⟨_, hh, _⟩ := hx; cases hh
          case tup => obtain ⟨_, hh, _⟩ := hx; cases hh
          all_goals cases hx

theorem lConvert_sound (hi : Inv ρ w0 j H w) (he : ER ρ j N env a) {s d : TypeId} {x : Operand} (ho : o.op = .convert s d x) (h : lConvert P s d x env H = some v) : LS P ρ j w a o v := by
  unfold lConvert at h
  split at h
  case h_2 => cases h
  rename_i u hx
  have hr := opd_sound he hx
  have glue : (∃ v', (convert s d (a.eval x)).run P w = .ok v' w ∧ R ρ j v v') → LS P ρ j w a o v := fun ⟨v', h1, h2⟩ =>
    ⟨v', by simp only [execOp, ho, Sem.run_bind, h1, Result.andThen_ok, Sem.run_pure], h2⟩
  unfold convA at h
  split at h
  · cases h
  · rename_i sd hs
    split at h
    · rename_i k hd
      split at h
      · rename_i k' n
        cases h
        simp only [R] at hr
        rw [hr] at glue
        refine glue ⟨.int k (k.wrap (n.den ρ)), ?_, by rw [← mkWrap_den]; rfl⟩
        unfold convert
        simp only [Sem.run_bind, run_underlying hs, run_underlying hd, Result.andThen_ok]
        rfl
      · cases h
    · rename_i hd
      split at h
      · exact glue (convStr_sound hi hs hd hr h)
      · split at h
        · cases h
          refine glue ⟨_, ?_, hr⟩
          obtain ⟨g, hu⟩ := hr
          rw [hu]
          unfold convert
          simp only [Sem.run_bind, run_underlying hs, run_underlying hd, Result.andThen_ok]
          rfl
        · cases h
      · cases h
    · cases h

/-! ### Places -/
theorem lIndexAddr_sound (he : ER ρ j N env a) {t : TypeId} {x i : Operand} (ho : o.op = .indexAddr t x i) (h : lIndexAddr P t x i env H = some v) : LS P ρ j w a o v := by
  unfold lIndexAddr at h
  split at h
  · rename_i n off len cap k hx hk
    obtain ⟨kk, hk⟩ := natA_sound he hk
    obtain ⟨L, hj, hck, hu⟩ := opd_sound he hx
    split at h
    · rename_i s hs
      split at h
      · rename_i hb
        rw [Nat.blt_eq] at hb
        cases h
        obtain ⟨e, hut, hs'⟩ := elemSz_eq hs
        refine ⟨.pointer (some ⟨L.blk, L.off + (off + k * s), none⟩), ?_, L, hj, rfl⟩
        simp only [execOp, ho, hu, hk, Instr.indexAt, asIntOf, Sem.run_bind, Sem.run_pure, Result.andThen_ok, run_underlying hut]
        rw [if_pos (by omega)]
        simp only [Sem.run_bind, run_sizeOf hs', Result.andThen_ok, Sem.run_pure, Int.toNat_natCast, addr_add, Nat.add_assoc]
      · cases h
    · cases h
  · rename_i n off k hx hk
    obtain ⟨kk, hk⟩ := natA_sound he hk
    obtain ⟨L, hj, hu⟩ := opd_sound he hx
    split at h
    · rename_i len e s hs
      split at h
      · rename_i hb
        rw [Nat.blt_eq] at hb
        cases h
        obtain ⟨hut, hs'⟩ := arrOf_eq hs
        refine ⟨.pointer (some ⟨L.blk, L.off + (off + k * s), none⟩), ?_, L, hj, rfl⟩
        simp only [execOp, ho, hu, hk, Instr.indexAt, asIntOf, Sem.run_bind, Sem.run_pure, Result.andThen_ok, run_underlying hut, Instr.sureAddr]
        rw [if_pos (by omega)]
        simp only [Sem.run_bind, run_sizeOf hs', Result.andThen_ok, Sem.run_pure, Int.toNat_natCast, addr_add, Nat.add_assoc]
      · cases h
    · cases h
  · cases h

theorem lIndex_sound (he : ER ρ j N env a) {t : TypeId} {x i : Operand} (ho : o.op = .index t x i) (h : lIndex P t x i env H = some v) : LS P ρ j w a o v := by
  unfold lIndex at h
  split at h
  · rename_i cs k hx hk
    obtain ⟨kk, hk⟩ := natA_sound he hk
    obtain ⟨vs, hu, hr⟩ := opd_sound he hx
    split at h
    · rename_i len e s hs
      split at h
      · rename_i hb
        rw [Nat.blt_eq] at hb
        obtain ⟨hut, hs'⟩ := arrOf_eq hs
        obtain ⟨y, h1, h2⟩ := partA_sound (P := P) (w := w) (vs := vs.toArray) h (by simpa using hr)
        refine ⟨y, ?_, h2⟩
        simp only [execOp, ho, hu, hk, Instr.index, asIntOf, Sem.run_bind, Sem.run_pure, Result.andThen_ok, run_underlying hut]
        rw [if_pos (by omega)]
        simp only [Sem.run_bind, run_sizeOf hs', Result.andThen_ok, Sem.run_pure, Int.toNat_natCast]
        have h1 : (part e vs.toArray (k * s)).run P w = .ok y w := h1
        rw [h1]
        rfl
      · cases h
    · cases h
  · rename_i p k hx hk
    obtain ⟨kk, hk⟩ := natA_sound he hk
    obtain ⟨g, hu⟩ := opd_sound he hx
    split at h
    · rename_i hs
      have hut := isStrT_eq hs
      unfold indexStr at h
      split at h
      · rename_i b hb
        cases h
        have hlt : k < p.length := by
          rcases Nat.lt_or_ge k p.length with h' | h'
          · exact h'
          · rw [List.getElem?_eq_none h'] at hb; cases hb
        have hbb : b < 256 := g b (List.mem_of_getElem? hb)
        refine ⟨.int .u8 (b : Int), ?_, rfl⟩
        have hget : (⟨(p.map UInt8.ofNat).toArray⟩ : ByteArray)[k]? = some (UInt8.ofNat b) := by
          have hsz : k < (⟨(p.map UInt8.ofNat).toArray⟩ : ByteArray).size := by simp [ByteArray.size]; exact hlt
          rw [getElem?_pos (⟨(p.map UInt8.ofNat).toArray⟩ : ByteArray) k hsz]
          congr 1
          have : p[k] = b := by rw [List.getElem?_eq_getElem hlt] at hb; exact Option.some.inj hb
          show ((p.map UInt8.ofNat).toArray)[k]'(by simpa using hlt) = _
          simp [this]
        simp only [execOp, ho, hu, hk, Instr.index, asIntOf, Sem.run_bind, Sem.run_pure, Result.andThen_ok, run_underlying hut]
        rw [if_pos (by omega), Int.toNat_natCast, hget]
        simp
        omega
      · cases h
    · cases h
  · cases h

theorem fieldOf_eq {t : TypeId} {f : Nat} {fd : Field} (h : fieldOf P t f = some fd) : ∃ fs, P.underlying t = some (.struct fs) ∧ fs[f]? = some fd := by
  unfold fieldOf at h
  split at h
  · rename_i fs hu; exact ⟨fs, hu, h⟩
  · cases h
theorem lField_sound (he : ER ρ j N env a) {t : TypeId} {x : Operand} {f : Nat} (ho : o.op = .field t x f) (h : lField P t x f env H = some v) : LS P ρ j w a o v := by
  unfold lField at h
  split at h
  · rename_i fd cs hf hx
    obtain ⟨vs, hu, hr⟩ := opd_sound he hx
    obtain ⟨fs, hut, hfd⟩ := fieldOf_eq hf
    obtain ⟨y, h1, h2⟩ := partA_sound (P := P) (w := w) (vs := vs.toArray) h (by simpa using hr)
    refine ⟨y, ?_, h2⟩
    simp only [execOp, ho, hu, Instr.field, Sem.run_bind, run_underlying hut, Result.andThen_ok, hfd, asAgg, Sem.run_pure, h1]
  · cases h

theorem lArrPtr_sound (he : ER ρ j N env a) {t : TypeId} {x : Operand} (ho : o.op = .sliceToArrayPointer t x) (h : lArrPtr P t x env H = some v) : LS P ρ j w a o v := by
  unfold lArrPtr at h
  split at h
  · rename_i n e s b off len cap hs hx
    obtain ⟨L, hj, hck, hu⟩ := opd_sound he hx
    obtain ⟨hut, hs'⟩ := arrOf_eq hs
    split at h
    · rename_i hb
      have hb := Nat.le_of_ble_eq_true hb
      cases h
      refine ⟨.pointer (some ⟨L.blk, L.off + off, none⟩), ?_, L, hj, rfl⟩
      simp only [execOp, ho, hu, Instr.arrayAt, Sem.run_bind, run_underlying hut, Result.andThen_ok]
      rw [if_neg (by omega)]
      rfl
    · cases h
  · cases h

theorem lMakeFunc_sound (he : ER ρ j N env a) {fn : Fn} {first cap : Array Operand} (ho : o.op = .makeFunc fn first cap) (h : lMakeFunc fn first cap env H = some v) : LS P ρ j w a o v := by
  unfold lMakeFunc at h
  split at h
  · rename_i f
    split at h
    · rename_i l m hl hm
      cases h
      have h1 := opds_sound he hl
      have h2 := opds_sound he hm
      refine ⟨.func (.func f) (first.map a.eval) (cap.map a.eval), by simp only [execOp, ho, Instr.makeFunc, Sem.run_bind, Sem.run_pure, Result.andThen_ok], _, _, ?_, h1, h2⟩
      congr 1 <;> apply Array.ext' <;> simp
    · cases h
  · cases h

theorem lMakeIface_sound (he : ER ρ j N env a) {t : TypeId} {x : Operand} (ho : o.op = .makeInterface t x) (h : lMakeIface P t x env H = some v) : LS P ρ j w a o v := by
  unfold lMakeIface at h
  split at h
  · cases h
  · cases h
  · rename_i d hn hd
    split at h
    · rename_i u hx
      cases h
      refine ⟨.iface t (a.eval x), ?_, _, rfl, opd_sound he hx⟩
      simp only [execOp, ho, Instr.makeInterface, Sem.run_bind, run_underlying hd, Result.andThen_ok]
      cases d <;> first | (exact absurd hd (hn _)) | rfl
    · cases h

theorem lTypeAssert_sound (he : ER ρ j N env a) {x : Operand} {t t' : TypeId} {ok : Bool} (ho : o.op = .typeAssert x t' t ok) (h : lTypeAssert P x t' t ok env H = some v) : LS P ρ j w a o v := by
  unfold lTypeAssert at h
  split at h
  · cases h
  · cases h
  · rename_i d hn hd
    split at h
    · rename_i t2 u hx
      obtain ⟨y, hu, hr⟩ := opd_sound he hx
      split at h
      · rename_i hb
        have hb := natBeq hb
        subst hb
        cases h
        refine ⟨if ok then .tuple #[y, .bool true] else y, ?_, ?_⟩
        · simp only [execOp, ho, hu, Instr.typeAssert, Sem.run_bind, run_underlying hd, Result.andThen_ok]
          cases d <;> first | (exact absurd hd (hn _)) | (cases ok <;> simp)
        · cases ok
          · exact hr
          · exact ⟨_, rfl, .two hr rfl⟩
      · cases h
    · cases h

/-! ### Maps -/
theorem mapOf_eq {t et : TypeId} {kd : TypeDesc} (h : mapOf P t = some (kd, et)) : ∃ kt, P.underlying t = some (.map kt et) ∧ P.underlying kt = some kd ∧ ((∃ k, kd = .int k) ∨ kd = .string) := by
  unfold mapOf at h
  split at h
  · rename_i kt et' hu
    split at h
    · rename_i k hk; cases h; exact ⟨kt, hu, hk, .inl ⟨k, rfl⟩⟩
    · rename_i hk; cases h; exact ⟨kt, hu, hk, .inr rfl⟩
    · cases h
  · cases h

theorem keyEq_sound {kd : TypeDesc} {x y : AV} {u v : Value} {b : Bool} (hx : R ρ j x u) (hy : R ρ j y v) (h : keyEq kd x y = some b) : Instr.sameNow kd u v = some b := by
  unfold keyEq at h
  split at h
  · split at h
    · split at h
      · rename_i hk
        obtain rfl := kn_inj hk
        have h := sameInt_den (ρ := ρ) h
        simp only [R] at hx hy
        subst hx hy
        simp [Instr.sameNow, ← h]
      · cases h
    · cases h
  · split at h
    · cases h
      obtain ⟨g1, rfl⟩ := hx
      obtain ⟨g2, rfl⟩ := hy
      simp only [Instr.sameNow, bytes_beq g1 g2]
    · cases h
  · cases h

theorem findA_sound {kd : TypeDesc} {k : AV} {u : Value} (hk : R ρ j k u) : ∀ {es : List ME} {xs : List MapEntry} {i : Nat} {r : Option (Nat × AV)}, RM ρ j es xs → findA kd k es i = some r →
    ∃ r', Instr.findNow kd u xs i = some r' ∧ (match r with
      | none => r' = none
      | some (n, v) => ∃ v', r' = some (n, v') ∧ R ρ j v v' ∧ i ≤ n ∧ (∃ e x, es[n - i]? = some e ∧ xs[n - i]? = some x ∧ e.val = v ∧ x.val = v' ∧ R ρ j e.key x.key))
  | [], xs, i, r, hr, h => by
    have e : xs = [] := hr
    subst e
    unfold findA at h; cases h
    exact ⟨none, rfl, rfl⟩
  | e :: es, _, i, r, hr, h => by
    obtain ⟨x, xs, rfl, h1, h2, h3, h4⟩ := hr
    unfold findA at h
    split at h
    · rename_i hb
      cases h
      refine ⟨some (i, x.val), by unfold Instr.findNow; rw [keyEq_sound hk h1 hb], x.val, rfl, h2, Nat.le_refl _, e, x, by simp, by simp, rfl, rfl, h1⟩
    · rename_i hb
      obtain ⟨r', h5, h6⟩ := findA_sound hk h4 h
      refine ⟨r', by unfold Instr.findNow; rw [keyEq_sound hk h1 hb]; exact h5, ?_⟩
      cases r with
      | none => exact h6
      | some q =>
        obtain ⟨n, v⟩ := q
        obtain ⟨v', e1, e2, e3, e', x', e4, e5, e6⟩ := h6
        have e3 : i + 1 ≤ n := e3
        refine ⟨v', e1, e2, by omega, e', x', ?_, ?_, e6⟩
        · rw [show n - i = (n - Nat.succ i) + 1 by omega]; simpa using e4
        · rw [show n - i = (n - Nat.succ i) + 1 by omega]; simpa using e5
    · cases h

theorem run_checkKeyN {kt : TypeId} {kd : TypeDesc} (hk : P.underlying kt = some kd) (hkd : (∃ k, kd = .int k) ∨ kd = .string) (b : Bool) (n : Nat) (u : Value) : (Instr.checkKey b (n + 1) kt u).run P w = .ok () w := by
  rcases hkd with ⟨k, rfl⟩ | rfl <;> unfold Instr.checkKey <;> simp only [Sem.run_bind, run_underlying hk, Result.andThen_ok, Sem.run_pure]
theorem run_checkKey {kt : TypeId} {kd : TypeDesc} (hk : P.underlying kt = some kd) (hkd : (∃ k, kd = .int k) ∨ kd = .string) (b : Bool) (u : Value) : (Instr.checkKey b 10000 kt u).run P w = .ok () w :=
  run_checkKeyN hk hkd b 9999 u

theorem run_findKey {kt : TypeId} {kd : TypeDesc} {u : Value} {xs : List MapEntry} {r : Option (Nat × Value)} (hk : P.underlying kt = some kd) (h : Instr.findNow kd u xs 0 = some r) : (Instr.findKey kt u xs).run P w = .ok r w := by
  simp only [Instr.findKey, Sem.run_bind, run_underlying hk, Result.andThen_ok, h, Sem.run_pure]

theorem zeroA_sound {t : TypeId} {z : AV} (h : zeroA P t = some z) : ∃ v, (∀ w', (zeroValue t).run P w' = .ok v w') ∧ R ρ j z v ∧ ofValue v = some z := by
  unfold zeroA at h
  split at h
  · rename_i i hi
    split at h
    · rename_i v' hz
      exact ⟨v', fun w' => by simp [zeroValue, typeInfo, hi, hz], R_ofValue h, h⟩
    · cases h
  · cases h

theorem RM.size : ∀ {es : List ME} {xs : List MapEntry}, RM ρ j es xs → xs.length = es.length
  | [], xs, h => by have e : xs = [] := h; rw [e]; rfl
  | e :: es, _, h => by obtain ⟨x, xs, rfl, _, _, _, h4⟩ := h; simp [RM.size h4]

/-- A map's entries. -/
def MapIs (w : World) (um : Value) (xs : Array MapEntry) : Prop := (um = .map none ∧ xs = #[]) ∨ ∃ r c, um = .map (some r) ∧ w.heap[r]? = some (.map xs c)

theorem entriesA_sound (hi : Inv ρ w0 j H w) {m : AV} {um : Value} {es : List ME} (hm : R ρ j m um) (h : entriesA H m = some es) : ∃ xs : Array MapEntry, RM ρ j es xs.toList ∧ MapIs w um xs := by
  unfold entriesA at h
  split at h
  · cases h
    simp only [R] at hm; subst hm
    exact ⟨#[], rfl, .inl ⟨rfl, rfl⟩⟩
  · split at h
    · rename_i es' c hma
      cases h
      obtain ⟨L, hj, rfl⟩ := hm
      obtain ⟨arr, h1, h2⟩ := hi.mapAt hj hma
      exact ⟨arr, h2, .inr ⟨_, _, rfl, h1⟩⟩
    · cases h
  · cases h

theorem run_lookup_yes {t kt et : TypeId} {kd : TypeDesc} {um uk v' : Value} {xs : Array MapEntry} {n : Nat} {ok : Bool} (hu : P.underlying t = some (.map kt et)) (hkt : P.underlying kt = some kd) (hkd : (∃ k, kd = .int k) ∨ kd = .string)
    (hm : MapIs w um xs) (hf : Instr.findNow kd uk xs.toList 0 = some (some (n, v'))) : (Instr.lookup t um uk ok).run P w = .ok (if ok then .tuple #[v', .bool true] else v') w := by
  unfold Instr.lookup
  rcases hm with ⟨rfl, rfl⟩ | ⟨r, c, rfl, hr⟩
  · simp only [Sem.run_bind, run_underlying hu, Result.andThen_ok, Sem.run_pure, run_checkKey hkt hkd, run_findKey hkt hf]
  · simp only [Sem.run_bind, run_underlying hu, Result.andThen_ok, run_getObj_map P hr, Sem.run_pure, run_checkKey hkt hkd, run_findKey hkt hf]
theorem run_lookup_no {t kt et : TypeId} {kd : TypeDesc} {um uk z : Value} {xs : Array MapEntry} {ok : Bool} (hu : P.underlying t = some (.map kt et)) (hkt : P.underlying kt = some kd) (hkd : (∃ k, kd = .int k) ∨ kd = .string)
    (hm : MapIs w um xs) (hf : Instr.findNow kd uk xs.toList 0 = some none) (hz : (zeroValue et).run P w = .ok z w) : (Instr.lookup t um uk ok).run P w = .ok (if ok then .tuple #[z, .bool false] else z) w := by
  unfold Instr.lookup
  rcases hm with ⟨rfl, rfl⟩ | ⟨r, c, rfl, hr⟩
  · simp only [Sem.run_bind, run_underlying hu, Result.andThen_ok, Sem.run_pure, run_checkKey hkt hkd, run_findKey hkt hf, hz]
  · simp only [Sem.run_bind, run_underlying hu, Result.andThen_ok, run_getObj_map P hr, Sem.run_pure, run_checkKey hkt hkd, run_findKey hkt hf, hz]

theorem hits_perm {kt : TypeId} {k : AV} {es es' : List ME} (hp : es'.Perm es) : ∀ {l : List AV}, hits P H kt k es = some l → ∃ l', hits P H kt k es' = some l' ∧ l'.Perm l := by
  have step : ∀ (e : ME) (es es' : List ME), (∀ {l : List AV}, hits P H kt k es = some l → ∃ l', hits P H kt k es' = some l' ∧ l'.Perm l) → ∀ {l : List AV}, hits P H kt k (e :: es) = some l → ∃ l', hits P H kt k (e :: es') = some l' ∧ l'.Perm l := fun e es es' ih l h => by
    unfold hits at h ⊢
    split at h
    · rename_i h1 h2
      cases h
      obtain ⟨l', e1, e2⟩ := ih h2
      rw [h1, e1]
      exact ⟨_, rfl, e2.cons _⟩
    · rename_i h1 h2
      cases h
      obtain ⟨l', e1, e2⟩ := ih h2
      rw [h1, e1]
      exact ⟨_, rfl, e2⟩
    · cases h
  induction hp with
  | nil => intro l h; exact ⟨l, h, .refl _⟩
  | cons e _ ih => intro l h; exact step e _ _ ih h
  | swap x y r =>
    intro l h
    cases hr : hits P H kt k r with
    | none =>
      unfold hits at h
      split at h
      · rename_i _ h2; unfold hits at h2; rw [hr] at h2; split at h2 <;> simp_all
      · rename_i _ h2; unfold hits at h2; rw [hr] at h2; split at h2 <;> simp_all
      · cases h
    | some m =>
      have one : ∀ (z : ME) (q l : List AV) (rr : List ME), hits P H kt k rr = some q → hits P H kt k (z :: rr) = some l → (eqA P H 8 kt k z.key = some (.lit true) ∧ l = z.val :: q) ∨ (eqA P H 8 kt k z.key = some (.lit false) ∧ l = q) := fun z q l rr h1 h2 => by
        unfold hits at h2
        rw [h1] at h2
        split at h2
        · rename_i h3 h4; cases h4; cases h2; exact .inl ⟨h3, rfl⟩
        · rename_i h3 h4; cases h4; cases h2; exact .inr ⟨h3, rfl⟩
        · cases h2
      have mk1 : ∀ (z : ME) (q : List AV) (rr : List ME), hits P H kt k rr = some q → eqA P H 8 kt k z.key = some (.lit true) → hits P H kt k (z :: rr) = some (z.val :: q) := fun z q rr h1 h2 => by
        unfold hits; rw [h1, h2]
      have mk0 : ∀ (z : ME) (q : List AV) (rr : List ME), hits P H kt k rr = some q → eqA P H 8 kt k z.key = some (.lit false) → hits P H kt k (z :: rr) = some q := fun z q rr h1 h2 => by
        unfold hits; rw [h1, h2]
      cases hy : hits P H kt k (y :: r) with
      | none => unfold hits at h; rw [hy] at h; split at h <;> simp_all
      | some my =>
        rcases one y m my r hr hy with ⟨a1, rfl⟩ | ⟨a1, rfl⟩ <;> rcases one x _ l _ hy h with ⟨b1, rfl⟩ | ⟨b1, rfl⟩
        · exact ⟨_, mk1 y _ _ (mk1 x _ _ hr b1) a1, .swap ..⟩
        · exact ⟨_, mk1 y _ _ (mk0 x _ _ hr b1) a1, .refl _⟩
        · exact ⟨_, mk0 y _ _ (mk1 x _ _ hr b1) a1, .refl _⟩
        · exact ⟨_, mk0 y _ _ (mk0 x _ _ hr b1) a1, .refl _⟩
  | trans _ _ ih1 ih2 =>
    intro l h
    obtain ⟨l1, e1, p1⟩ := ih2 h
    obtain ⟨l2, e2, p2⟩ := ih1 e1
    exact ⟨l2, e2, p2.trans p1⟩

theorem findAsking_run (hi : Inv ρ w0 j H w) {kt : TypeId} {k : AV} {uk : Value} (hk : R ρ j k uk) : ∀ {es : List ME} {xs : List MapEntry} {l : List AV} (i : Nat), RK ρ j es xs → hits P H kt k es = some l →
    (match l with
      | [] => (Instr.findAsking kt uk xs i).run P w = .ok none w
      | v :: _ => ∃ n v', (Instr.findAsking kt uk xs i).run P w = .ok (some (n, v')) w ∧ R ρ j v v')
  | [], xs, l, i, hr, h => by
    have e : xs = [] := hr
    subst e
    unfold hits at h; cases h
    rfl
  | e :: es, _, l, i, hr, h => by
    obtain ⟨x, xs, rfl, h1, h2, h3⟩ := hr
    unfold hits at h
    split at h
    · rename_i m ha hb
      cases h
      have heq := eqA_sound hi 8 Op.maxDepth kt k e.key _ (by decide) ha uk x.key hk h1
      refine ⟨i, x.val, ?_, h2⟩
      unfold Instr.findAsking
      simp only [Op.equal, Sem.run_bind, heq, Result.andThen_ok, SB.den, if_true, Sem.run_pure]
    · rename_i m ha hb
      cases h
      have heq := eqA_sound hi 8 Op.maxDepth kt k e.key _ (by decide) ha uk x.key hk h1
      have ih := findAsking_run hi hk (i + 1) h3 hb
      have hstep : (Instr.findAsking kt uk (x :: xs) i).run P w = (Instr.findAsking kt uk xs (i + 1)).run P w := by
        conv => lhs; unfold Instr.findAsking
        simp only [Op.equal, Sem.run_bind, heq, Result.andThen_ok, SB.den, Bool.false_eq_true, if_false]
      rw [hstep]
      exact ih
    · cases h

def ckStep (b : Bool) (n : Nat) (e : TypeId) (us : Array Value) (i : Nat) (_ : PUnit) : Sem (ForInStep PUnit) := do
  let s ← sizeOf e
  let x ← part e us (i * s)
  Instr.checkKey b n e x
  pure (.yield ⟨⟩)
theorem run_ckLoop {e : TypeId} {k : IntKind} (he : P.underlying e = some (.int k)) {s : Nat} (hs : szOf P e = some s) {cs : List AV} {us : Array Value} (hr : RL ρ j cs us.toList) (b : Bool) (d : Nat) : ∀ (n i : Nat), partsIn P e s cs n i = true →
    (forIn (List.range' i n) (⟨⟩ : PUnit) (ckStep b (d + 1) e us)).run P w = .ok ⟨⟩ w
  | 0, i, _ => by simp
  | n + 1, i, h => by
    unfold partsIn at h
    split at h
    case h_2 => cases h
    rename_i x hx
    obtain ⟨u, h3, h4⟩ := partA_sound (P := P) (w := w) hx hr
    rw [List.range'_succ, List.forIn_cons]
    simp only [Sem.run_bind, ckStep, run_sizeOf hs, Result.andThen_ok, h3, run_checkKeyN he (.inl ⟨k, rfl⟩) b d u, Sem.run_pure]
    exact run_ckLoop he hs hr b d n (i + 1) h
theorem run_checkKeyArr {kt e : TypeId} {len : Nat} {k : IntKind} (hkt : P.underlying kt = some (.array len e)) (he : P.underlying e = some (.int k)) {s : Nat} (hs : szOf P e = some s) {cs : List AV} {us : Array Value} (hr : RL ρ j cs us.toList) (hp : partsIn P e s cs len 0 = true) (b : Bool) :
    (Instr.checkKey b 10000 kt (.agg us)).run P w = .ok () w := by
  unfold Instr.checkKey
  simp only [Sem.run_bind, run_underlying hkt, Result.andThen_ok]
  rw [Std.Legacy.Range.forIn_eq_forIn_range']
  refine Eq.trans ?_ (run_ckLoop he hs hr b 9998 len 0 hp)
  simp only [Std.Legacy.Range.size, Nat.sub_zero, Nat.add_sub_cancel, Nat.div_one]
  refine Eq.trans (congrArg (fun r => Result.andThen r _) (run_ckLoop he hs hr b 9998 len 0 hp)) ?_
  exact (run_ckLoop he hs hr b 9998 len 0 hp).symm

theorem intArr_eq {t e : TypeId} {n : Nat} (h : intArr P t = some (n, e)) : P.underlying t = some (.array n e) ∧ ∃ k, P.underlying e = some (.int k) := by
  unfold intArr at h
  split at h
  case h_2 => cases h
  rename_i n' e' h1
  split at h
  case h_2 => cases h
  rename_i k h2
  cases h
  exact ⟨h1, k, h2⟩

theorem lookupU_sound (hi : Inv ρ w0 j H w) {t : TypeId} {m k : AV} {um uk : Value} {ok : Bool} (hm : R ρ j m um) (hk : R ρ j k uk) (h : lookupU P H t m k ok = some v) :
    ∃ v', (Instr.lookup t um uk ok).run P w = .ok v' w ∧ R ρ j v v' := by
  unfold lookupU at h
  split at h
  case h_2 => cases h
  rename_i kt et n cs hu
  split at h
  case h_2 => cases h
  rename_i len e es hia hmu
  obtain ⟨hkt, kd, hke⟩ := intArr_eq hia
  split at h
  case h_2 => cases h
  rename_i s hs
  obtain ⟨L, hj, rfl⟩ := hm
  have hk' := hk
  obtain ⟨us, rfl, hus⟩ := hk'
  obtain ⟨arr, clock, es', hblk, hperm, hrk⟩ := hi.mapuAt hj hmu
  have hck : ∀ hp : partsIn P e s cs len 0 = true, ∀ b, (Instr.checkKey b 10000 kt (.agg us.toArray)).run P w = .ok () w := fun hp b => run_checkKeyArr hkt hke hs (by simpa using hus) hp b
  have hfk : ∀ l, hits P H kt (.agg cs) es = some l → ∃ l' : List AV, l'.Perm l ∧ (match l' with
      | [] => (Instr.findKey kt (.agg us.toArray) arr.toList).run P w = .ok none w
      | v :: _ => ∃ n v', (Instr.findKey kt (.agg us.toArray) arr.toList).run P w = .ok (some (n, v')) w ∧ R ρ j v v') := fun l hl => by
    obtain ⟨l', h1, h2⟩ := hits_perm hperm hl
    have h3 := findAsking_run (P := P) hi hk 0 hrk h1
    refine ⟨l', h2, ?_⟩
    have hfa : (Instr.findKey kt (.agg us.toArray) arr.toList).run P w = (Instr.findAsking kt (.agg us.toArray) arr.toList 0).run P w := by
      unfold Instr.findKey
      simp only [Sem.run_bind, run_underlying hkt, Result.andThen_ok]
      cases arr.toList with
      | nil => rfl
      | cons x xs =>
        have : Instr.findNow (.array len e) (.agg us.toArray) (x :: xs) 0 = none := by
          unfold Instr.findNow
          have : Instr.sameNow (.array len e) (.agg us.toArray) x.key = none := by unfold Instr.sameNow; rfl
          rw [this]
        rw [this]
    rw [hfa]
    exact h3
  split at h
  · rename_i u hp hh
    cases h
    obtain ⟨l', h1, h2⟩ := hfk _ hh
    have e1 : l' = [u] := List.perm_singleton.1 h1
    subst e1
    obtain ⟨n', v', h3, h4⟩ := h2
    refine ⟨if ok then .tuple #[v', .bool true] else v', ?_, ?_⟩
    · unfold Instr.lookup
      simp only [Sem.run_bind, run_underlying hu, Result.andThen_ok, run_getObj_map P hblk, Sem.run_pure, hck hp, h3]
    · cases ok
      · exact h4
      · exact ⟨_, rfl, .two h4 rfl⟩
  · rename_i hp hh
    obtain ⟨l', h1, h2⟩ := hfk _ hh
    have e1 : l' = [] := List.perm_nil.1 h1
    subst e1
    split at h
    case h_2 => cases h
    rename_i z hz
    cases h
    obtain ⟨z', h5, h6, _⟩ := zeroA_sound (ρ := ρ) (j := j) hz
    refine ⟨if ok then .tuple #[z', .bool false] else z', ?_, ?_⟩
    · unfold Instr.lookup
      simp only [Sem.run_bind, run_underlying hu, Result.andThen_ok, run_getObj_map P hblk, Sem.run_pure, hck hp, h2, h5 w]
    · cases ok
      · exact h6
      · exact ⟨_, rfl, .two h6 rfl⟩
  · cases h

theorem lookupA_sound (hi : Inv ρ w0 j H w) {t : TypeId} {m k : AV} {um uk : Value} {ok : Bool} (hm : R ρ j m um) (hk : R ρ j k uk) (h : lookupA P H t m k ok = some v) :
    ∃ v', (Instr.lookup t um uk ok).run P w = .ok v' w ∧ R ρ j v v' := by
  unfold lookupA at h
  split at h
  · exact lookupU_sound hi hm hk h
  · rename_i kd et hmo
    obtain ⟨kt, hu, hkt, hkd⟩ := mapOf_eq hmo
    split at h
    · cases h
    · rename_i es hes
      obtain ⟨xs, hr, hmi⟩ := entriesA_sound hi hm hes
      split at h
      · cases h
      · split at h
        · cases h
        · rename_i n a' hf
          cases h
          obtain ⟨r', h1, v', rfl, h3, _⟩ := findA_sound hk hr hf
          refine ⟨_, run_lookup_yes hu hkt hkd hmi h1, ?_⟩
          cases ok
          · exact h3
          · exact ⟨_, rfl, .two h3 rfl⟩
        · rename_i hf
          obtain ⟨r', h1, rfl⟩ := findA_sound hk hr hf
          split at h
          · cases h
          · rename_i z hz
            cases h
            obtain ⟨z', h2, h3, _⟩ := zeroA_sound (ρ := ρ) (j := j) hz
            refine ⟨_, run_lookup_no hu hkt hkd hmi h1 (h2 w), ?_⟩
            cases ok
            · exact h3
            · exact ⟨_, rfl, .two h3 rfl⟩

theorem lLookup_sound (hi : Inv ρ w0 j H w) (he : ER ρ j N env a) {t : TypeId} {x i : Operand} {ok : Bool} (ho : o.op = .lookup t x i ok) (h : lLookup P t x i ok env H = some v) : LS P ρ j w a o v := by
  unfold lLookup at h
  split at h
  · rename_i m k hm hk
    obtain ⟨v', h1, h2⟩ := lookupA_sound hi (opd_sound he hm) (opd_sound he hk) h
    refine ⟨v', ?_, h2⟩
    simp only [execOp, ho, Sem.run_bind, h1, Result.andThen_ok, Sem.run_pure]
  · cases h

theorem findBorn_sound : ∀ {es : List ME} {xs : List MapEntry} {n : Nat} {e : ME}, RM ρ j es xs → findBorn n es = some e → ∃ x, xs.find? (fun x => x.born == n) = some x ∧ R ρ j e.key x.key ∧ R ρ j e.val x.val
  | [], _, _, _, _, h => by cases h
  | e :: es, _, n, e', hr, h => by
    obtain ⟨x, xs, rfl, h1, h2, h3, h4⟩ := hr
    unfold findBorn at h
    split at h
    · rename_i hb
      cases h
      have := natBeq hb
      exact ⟨x, by simp [h3, this], h1, h2⟩
    · rename_i hb
      obtain ⟨y, h5, h6⟩ := findBorn_sound h4 h
      refine ⟨y, ?_, h6⟩
      have : e.born ≠ n := fun hh => by rw [hh, Nat.beq_refl] at hb; cases hb
      rw [List.find?_cons_of_neg (by simp [h3, this])]
      exact h5

theorem run_getObj_iter (P : Program) {r : Nat} {m : Option Nat} {s st : Nat} {sa : Array Nat} (h : w.heap[r]? = some (.mapIter m s sa st)) : (getObj r).run P w = .ok (.mapIter m s sa st) w := by
  simp [getObj, Sem.run, h]

theorem lEntry_sound (hi : Inv ρ w0 j H w) (he : ER ρ j N env a) {x : Operand} (ho : o.op = .entry x) (h : lEntry x env H = some v) : LS P ρ j w a o v := by
  unfold lEntry at h
  split at h
  case h_2 => cases h
  rename_i n hx
  obtain ⟨L, hj, hu⟩ := opd_sound he hx
  split at h
  case h_2 => cases h
  rename_i m since seen stepped hm
  obtain ⟨ob, h1, h2⟩ := hi.obj n L hj
  rw [hm] at h1; cases h1
  obtain ⟨hb, ho0, m', sa, h3, h4, Lm, h5, rfl⟩ := h2
  split at h
  case h_2 => cases h
  rename_i stamp rest hs
  split at h
  case h_2 => cases h
  rename_i es clock hma
  split at h
  case h_2 => cases h
  rename_i hc
  have hc := natBeq hc
  subst hc
  split at h
  case h_2 => cases h
  rename_i e hf
  cases h
  obtain ⟨arr, h6, h7⟩ := hi.mapAt h5 hma
  obtain ⟨y, h8, h9, h10⟩ := findBorn_sound h7 hf
  refine ⟨.tuple #[y.key, y.val], ?_, _, rfl, .two h9 h10⟩
  have hback : sa.back? = some stamp := by
    have : sa.toList.reverse = stamp :: rest := by rw [h4]; exact hs
    have h' : sa.toList = rest.reverse ++ [stamp] := by
      have := congrArg List.reverse this
      simpa using this
    have : sa = (rest.reverse ++ [stamp]).toArray := by rw [← h']
    rw [this]; simp
  have hfind : arr.find? (fun x => x.born == stamp) = some y := by rw [← Array.find?_toList]; exact h8
  have e0 : L.off + 0 = 0 := by omega
  simp only [execOp, ho, hu, Sem.run_bind]
  rw [e0]
  simp only [Instr.entry, Sem.run_bind, run_getObj_iter P h3, Result.andThen_ok, hback, run_getObj_map P h6]
  simp [hfind]

/-! ### The builtins that only look -/
theorem run_call_builtin {c : Call} {b : Builtin} {u : Value} (ho : o.op = .call c) (hc : c.callee = .builtin b) {f : Array TypeId → TypeId → Array Value → Sem Value}
    (hb : ∀ ats ty cs args, builtin b ats ty cs args = (do pure (.value (← f ats ty args)))) (h : (f c.argTypes o.type (c.args.map a.eval)).run P w = .ok u w) : (execOp a.eval o).run P w = .ok (.value u) w := by
  simp only [execOp, ho, resolve, hc, Sem.run_bind, Sem.run_pure, Result.andThen_ok, invoke, hb, h]

theorem natV_eq {n : Nat} {x : AV} (h : natV n = some x) : x = .int .i64 (.lit (.ofNat n)) := by
  unfold natV at h; rw [forceN_eq] at h; exact (Option.some.inj h).symm

theorem args_one {c : Call} {x : Operand} (h : c.args.toList = [x]) : c.args.map a.eval = #[a.eval x] := by
  apply Array.ext'; simp [h]
theorem args_two {c : Call} {x y : Operand} (h : c.args.toList = [x, y]) : c.args.map a.eval = #[a.eval x, a.eval y] := by
  apply Array.ext'; simp [h]
theorem argTypes_cons {c : Call} {t : TypeId} {l : List TypeId} (h : c.argTypes.toList = t :: l) : c.argTypes[0]? = some t := by
  rw [← Array.getElem?_toList, h]; rfl

theorem lenOfA_sound (hi : Inv ρ w0 j H w) {d : TypeDesc} {t : TypeId} {x : AV} {u : Value} {ats : Array TypeId} {ty : TypeId} (hx : R ρ j x u) (hd : P.underlying t = some d) (ht : ats[0]? = some t) (h : lenOfA (some d) H x = some v) :
    ∃ v', (Builtin.len_ ats ty #[u]).run P w = .ok v' w ∧ R ρ j v v' := by
  unfold lenOfA at h
  split at h
  · rename_i heq
    cases heq
    split at h
    · have := natV_eq h; subst this
      simp only [R] at hx; subst hx
      exact ⟨_, by unfold Builtin.len_; simp only [ht, List.getElem?_toArray, List.getElem?_cons_zero, Sem.run_bind, run_underlying hd, Result.andThen_ok]; rfl, rfl⟩
    · have := natV_eq h; subst this
      obtain ⟨p, c, rfl⟩ := hx
      exact ⟨_, by unfold Builtin.len_; simp only [ht, List.getElem?_toArray, List.getElem?_cons_zero, Sem.run_bind, run_underlying hd, Result.andThen_ok]; rfl, rfl⟩
    · have := natV_eq h; subst this
      obtain ⟨L, _, _, rfl⟩ := hx
      exact ⟨_, by unfold Builtin.len_; simp only [ht, List.getElem?_toArray, List.getElem?_cons_zero, Sem.run_bind, run_underlying hd, Result.andThen_ok]; rfl, rfl⟩
    · cases h
      obtain ⟨b, l, c, rfl, hl⟩ := hx
      exact ⟨_, by unfold Builtin.len_; simp only [ht, List.getElem?_toArray, List.getElem?_cons_zero, Sem.run_bind, run_underlying hd, Result.andThen_ok]; rfl, by show Value.int .i64 _ = _; rw [← hl]; rfl⟩
    · cases h
  · rename_i heq
    cases heq
    split at h
    · have := natV_eq h; subst this
      obtain ⟨g, rfl⟩ := hx
      refine ⟨_, by unfold Builtin.len_; simp only [ht, List.getElem?_toArray, List.getElem?_cons_zero, Sem.run_bind, run_underlying hd, Result.andThen_ok]; rfl, ?_⟩
      simp [R, goInt, SE.den, ByteArray.size]
    · cases h
  · rename_i heq
    cases heq
    have := natV_eq h; subst this
    exact ⟨_, by unfold Builtin.len_; simp only [ht, List.getElem?_toArray, List.getElem?_cons_zero, Sem.run_bind, run_underlying hd, Result.andThen_ok]; rfl, rfl⟩
  · rename_i heq
    cases heq
    split at h
    · have := natV_eq h; subst this
      simp only [R] at hx; subst hx
      exact ⟨_, by unfold Builtin.len_; simp only [ht, List.getElem?_toArray, List.getElem?_cons_zero, Sem.run_bind, run_underlying hd, Result.andThen_ok]; rfl, rfl⟩
    · split at h
      · rename_i es c hm
        have := natV_eq h; subst this
        obtain ⟨L, hj, rfl⟩ := hx
        obtain ⟨arr, h1, h2⟩ := hi.mapAt hj hm
        refine ⟨goInt arr.size, ?_, ?_⟩
        · unfold Builtin.len_
          simp only [ht, List.getElem?_toArray, List.getElem?_cons_zero, Sem.run_bind, run_underlying hd, Result.andThen_ok, run_getObj_map P h1, Sem.run_pure]
        · have := RM.size h2
          rw [Array.length_toList] at this
          simp [R, goInt, SE.den]
          omega
      · cases h
    · cases h
  · cases h

theorem lLen_sound (hi : Inv ρ w0 j H w) (he : ER ρ j N env a) {c : Call} (ho : o.op = .call c) (hc : c.callee = .builtin .len) (h : lLen P c.argTypes.toList c.args.toList env H = some v) : LS P ρ j w a o v := by
  unfold lLen at h
  split at h
  · rename_i t l x hts hxs
    split at h
    · rename_i u hx
      cases hd : P.underlying t with
      | none => rw [hd] at h; cases h
      | some d =>
        rw [hd] at h
        obtain ⟨v', h1, h2⟩ := lenOfA_sound (P := P) (ty := o.type) hi (opd_sound he hx) hd (argTypes_cons hts) h
        exact ⟨v', run_call_builtin ho hc (fun _ _ _ _ => rfl) (by rw [args_one hxs]; exact h1), h2⟩
    · cases h
  · cases h

theorem lCap_sound (he : ER ρ j N env a) {c : Call} (ho : o.op = .call c) (hc : c.callee = .builtin .cap) (h : lCap P c.argTypes.toList c.args.toList env H = some v) : LS P ρ j w a o v := by
  unfold lCap at h
  split at h
  · rename_i t l x hts hxs
    have ht := argTypes_cons hts
    split at h
    · rename_i e hu hx
      have := natV_eq h; subst this
      have hr := opd_sound he hx
      simp only [R] at hr
      refine ⟨goInt 0, run_call_builtin ho hc (fun _ _ _ _ => rfl) ?_, rfl⟩
      rw [args_one hxs, hr]
      simp [Builtin.cap_, ht, run_underlying hu]
    · rename_i e b off len n hu hx
      have := natV_eq h; subst this
      obtain ⟨L, _, _, hr⟩ := opd_sound he hx
      refine ⟨goInt n, run_call_builtin ho hc (fun _ _ _ _ => rfl) ?_, rfl⟩
      rw [args_one hxs, hr]
      simp [Builtin.cap_, ht, run_underlying hu, capOf]
    · cases h
  · cases h

theorem lMin_sound (he : ER ρ j N env a) {c : Call} (ho : o.op = .call c) (hc : c.callee = .builtin .min) (h : lMin c.args.toList env H = some v) : LS P ρ j w a o v := by
  unfold lMin at h
  split at h
  · rename_i x y hxs
    split at h
    · rename_i k p k' q hx hy
      cases h
      have h1 := opd_sound he hx
      have h2 := opd_sound he hy
      simp only [R, SE.den] at h1 h2
      refine ⟨.int k (if q < p then q else p), run_call_builtin ho hc (fun _ _ _ _ => rfl) ?_, ?_⟩
      · rw [args_two hxs, h1, h2]
        simp [Builtin.min_, Builtin.min2]
      · simp only [R, SE.den, ltI_eq]
        by_cases hlt : q < p <;> simp [hlt]
    · cases h
  · cases h

theorem lMax_sound (he : ER ρ j N env a) {c : Call} (ho : o.op = .call c) (hc : c.callee = .builtin .max) (h : lMax c.args.toList env H = some v) : LS P ρ j w a o v := by
  unfold lMax at h
  split at h
  · rename_i x y hxs
    split at h
    · rename_i k p k' q hx hy
      cases h
      have h1 := opd_sound he hx
      have h2 := opd_sound he hy
      simp only [R, SE.den] at h1 h2
      refine ⟨.int k (if q > p then q else p), run_call_builtin ho hc (fun _ _ _ _ => rfl) ?_, ?_⟩
      · rw [args_two hxs, h1, h2]
        simp [Builtin.max_, Builtin.max2]
      · simp only [R, SE.den, ltI_eq]
        by_cases hlt : p < q <;> simp [hlt]
    · cases h
  · cases h

/-! ### Literals -/
theorem length_putL : ∀ (cs : List AV) (off : Nat) (vs : List AV), (putL cs off vs).length = cs.length
  | [], _, _ => by unfold putL; rfl
  | c :: cs, 0, [] => by unfold putL; rfl
  | c :: cs, 0, v :: vs => by unfold putL; simp [length_putL cs 0 vs]
  | c :: cs, o + 1, vs => by unfold putL; simp [length_putL cs o vs]
theorem getElem_putL : ∀ (cs : List AV) (off : Nat) (vs : List AV) (i : Nat), i < cs.length → (putL cs off vs)[i]? = if off ≤ i ∧ i < off + vs.length then vs[i - off]? else cs[i]?
  | [], _, _, _, h => by simp at h
  | c :: cs, 0, [], i, h => by unfold putL; rw [if_neg (by simp)]
  | c :: cs, 0, v :: vs, 0, h => by unfold putL; simp
  | c :: cs, 0, v :: vs, i + 1, h => by
    unfold putL
    simp only [List.getElem?_cons_succ]
    rw [getElem_putL cs 0 vs i (by simpa using h)]
    by_cases hc : i < vs.length
    · rw [if_pos (by omega), if_pos (by simp; omega)]; simp
    · rw [if_neg (by omega), if_neg (by simp; omega)]
  | c :: cs, o + 1, vs, 0, h => by unfold putL; simp
  | c :: cs, o + 1, vs, i + 1, h => by
    unfold putL
    simp only [List.getElem?_cons_succ]
    rw [getElem_putL cs o vs i (by simpa using h)]
    by_cases hc : o ≤ i ∧ i < o + vs.length
    · rw [if_pos hc, if_pos (by omega)]; congr 1; omega
    · rw [if_neg hc, if_neg (by omega)]

theorem fold_set : ∀ (vs : List Value) (k off : Nat) (A : Array Value), off + k + vs.length ≤ A.size →
    ((vs.zipIdx k).foldl (fun cs (x : Value × Nat) => cs.setIfInBounds (off + x.2) x.1) A).size = A.size ∧
    ∀ i, ((vs.zipIdx k).foldl (fun cs (x : Value × Nat) => cs.setIfInBounds (off + x.2) x.1) A)[i]? = if off + k ≤ i ∧ i < off + k + vs.length then vs[i - (off + k)]? else A[i]?
  | [], k, off, A, _ => ⟨rfl, fun i => by rw [if_neg (by simp)]; rfl⟩
  | v :: vs, k, off, A, h => by
    simp only [List.zipIdx_cons, List.foldl_cons]
    obtain ⟨h1, h2⟩ := fold_set vs (k + 1) off (A.setIfInBounds (off + k) v) (by simp at h ⊢; omega)
    refine ⟨by rw [h1]; simp, fun i => ?_⟩
    rw [h2]
    by_cases hk : i = off + k
    · subst hk
      rw [if_neg (by omega), if_pos (by simp)]
      simp at h
      simp [show off + k < A.size by omega]
    · by_cases hc : off + (k + 1) ≤ i ∧ i < off + (k + 1) + vs.length
      · rw [if_pos hc, if_pos (by simp; omega)]
        rw [show i - (off + k) = (i - (off + (k + 1))) + 1 by omega]; simp
      · rw [if_neg hc, if_neg (by simp; omega), Array.getElem?_setIfInBounds_ne (by omega)]

theorem partsOf_sound (he : ER ρ j N env a) : ∀ {ps : List (Nat × Operand)} {m : List (Nat × AV)}, partsOf env ps = some m →
    ∃ qs : List (Nat × Value), ps.map (fun (i, x) => (i, a.eval x)) = qs ∧ m.map (·.1) = qs.map (·.1) ∧ RL ρ j (m.map (·.2)) (qs.map (·.2))
  | [], m, h => by unfold partsOf at h; cases h; exact ⟨[], rfl, rfl, rfl⟩
  | p :: ps, m, h => by
    unfold partsOf at h
    split at h
    · cases h
    · rename_i x hx
      split at h
      · rename_i m' hm
        cases h
        obtain ⟨qs, h1, h2, h3⟩ := partsOf_sound he hm
        exact ⟨(p.1, a.eval p.2) :: qs, by simp [h1], by simp [h2], .cons (opd_sound he hx) h3⟩
      · cases h

theorem fillA_sound {place place' : Nat → Option (Nat × Nat)} (hp : ∀ i x, place i = some x → place' i = some x) : ∀ {ps : List (Nat × AV)} {qs : List (Nat × Value)} {cs l : List AV} {A : Array Value}, ps.map (·.1) = qs.map (·.1) → RL ρ j (ps.map (·.2)) (qs.map (·.2)) →
    RL ρ j cs A.toList → fillA place cs ps = some l → ∃ B, Instr.fill place' A qs = some B ∧ RL ρ j l B.toList
  | [], qs, cs, l, A, h1, h2, h3, h => by
    have e : qs = [] := by simpa using h1.symm
    subst e
    unfold fillA at h; cases h
    exact ⟨A, rfl, h3⟩
  | p :: ps, [], cs, l, A, h1, h2, h3, h => by simp at h1
  | p :: ps, q :: qs, cs, l, A, h1, h2, h3, h => by
    simp only [List.map_cons, List.cons.injEq] at h1
    obtain ⟨hi, h1⟩ := h1
    obtain ⟨v, m, heq, hv, h2⟩ := h2
    simp only [List.map_cons, List.cons.injEq] at heq
    obtain ⟨hq, rfl⟩ := heq
    subst hq
    unfold fillA at h
    split at h
    · cases h
    · rename_i off size hpl
      split at h
      case h_2 => cases h
      rename_i hb hle
      have hb := natBeq hb
      have hle : off + size ≤ cs.length := Nat.le_of_ble_eq_true hle
      have hcl := RL_cells hv
      have hlen := hcl.length
      have hA := h3.length
      simp only [Array.length_toList] at hlen hA
      have hfold := fold_set q.2.cells.toList 0 off A (by simp; omega)
      have hgood : RL ρ j (putL cs off p.2.cells) (q.2.cells.toList.zipIdx.foldl (fun cs (x : Value × Nat) => cs.setIfInBounds (off + x.2) x.1) A).toList := by
        refine RL.of_get (by rw [Array.length_toList, hfold.1, length_putL, hA]) fun i x hx => ?_
        have hlt : i < cs.length := by
          rcases Nat.lt_or_ge i cs.length with h' | h'
          · exact h'
          · rw [List.getElem?_eq_none (by rw [length_putL]; exact h')] at hx; cases hx
        rw [getElem_putL _ _ _ _ hlt] at hx
        rw [Array.getElem?_toList, hfold.2]
        simp only [Nat.add_zero, Array.length_toList]
        by_cases hc : off ≤ i ∧ i < off + p.2.cells.length
        · rw [if_pos hc] at hx
          rw [if_pos (by omega)]
          exact hcl.get _ _ hx
        · rw [if_neg hc] at hx
          rw [if_neg (by omega)]
          have := h3.get i x hx
          simpa using this
      obtain ⟨B, h5, h6⟩ := fillA_sound hp h1 h2 hgood h
      refine ⟨B, ?_, h6⟩
      unfold Instr.fill
      rw [← hi, hp _ _ hpl]
      simp only
      rw [if_neg]
      · have e : (q.2.cells.zipIdx.foldl (fun cs (x : Value × Nat) => cs.setIfInBounds (off + x.2) x.1) A) = (q.2.cells.toList.zipIdx.foldl (fun cs (x : Value × Nat) => cs.setIfInBounds (off + x.2) x.1) A) := by
          rw [← Array.foldl_toList]; simp
        rw [← e] at h5
        exact h5
      · simp
        omega

theorem lCall_sound (hi : Inv ρ w0 j H w) (he : ER ρ j N env a) {c : Call} (ho : o.op = .call c) (h : lCall P c env H = some v) : LS P ρ j w a o v := by
  cases hc : c.callee with
  | value f => simp only [lCall, hc] at h; cases h
  | invoke r n => simp only [lCall, hc] at h; cases h
  | builtin b =>
    cases b <;> simp only [lCall, hc] at h <;> try (cases h; done)
    case len => exact lLen_sound hi he ho hc h
    case cap => exact lCap_sound he ho hc h
    case min => exact lMin_sound he ho hc h
    case max => exact lMax_sound he ho hc h

theorem placesA_sound (w : World) : ∀ {fs : List Field} {pl : List (Nat × Nat)}, placesA P fs = some pl → (fs.mapM fun f => (do pure (f.offset, ← sizeOf f.type) : Sem (Nat × Nat))).run P w = .ok pl w
  | [], pl, h => by unfold placesA at h; cases h; rfl
  | f :: fs, pl, h => by
    unfold placesA at h
    split at h
    · cases h
    · rename_i s hs
      split at h
      · rename_i m hm
        cases h
        have ih := placesA_sound w hm
        simp only [List.mapM_cons, Sem.run_bind, run_sizeOf hs, Result.andThen_ok, Sem.run_pure, ih]
      · cases h
theorem nthP_eq : ∀ (l : List (Nat × Nat)) (i : Nat), nthP l i = l[i]?
  | [], i => by simp [nthP]
  | a :: l, 0 => rfl
  | a :: l, i + 1 => by show nthP l i = _; rw [nthP_eq l i]; simp

theorem lBuild_sound (he : ER ρ j N env a) {t : TypeId} {parts : Array (Nat × Operand)} (ho : o.op = .build t parts) (h : lBuild P t parts env H = some v) : LS P ρ j w a o v := by
  have h : buildA P env t parts.toList = some v := h
  unfold buildA at h
  split at h
  case h_2 => cases h
  rename_i z ps hz hps
  obtain ⟨z', hz1, hz2, _⟩ := zeroA_sound (ρ := ρ) (j := j) hz
  obtain ⟨qs, hq1, hq2, hq3⟩ := partsOf_sound he hps
  have hparts : (parts.map fun (i, x) => (i, a.eval x)).toList = qs := by rw [Array.toList_map]; exact hq1
  split at h
  · rename_i fs hu
    split at h
    · rename_i pl hpl
      split at h
      · rename_i l hl
        cases h
        have hm := placesA_sound w hpl
        have hm2 : (fs.mapM fun f => (do pure (f.offset, ← sizeOf f.type) : Sem (Nat × Nat))).run P w = .ok pl.toArray w := by
          rw [Array.mapM_eq_mapM_toList, Sem.run_map, hm]; rfl
        obtain ⟨B, h1, h2⟩ := fillA_sound (place' := (pl.toArray[·]?)) (fun i x hx => by rw [nthP_eq] at hx; simpa using hx) hq2 hq3 (RL_cells hz2) hl
        refine ⟨.agg B, ?_, _, by simp, h2⟩
        simp only [execOp, ho, Instr.build, Sem.run_bind, hz1, Result.andThen_ok, run_underlying hu, hm2, hparts, h1, Sem.run_pure]
      · cases h
    · cases h
  · rename_i n e hu
    split at h
    · rename_i s hs
      split at h
      · rename_i l hl
        cases h
        obtain ⟨B, h1, h2⟩ := fillA_sound (place' := fun i => some (i * s, s)) (fun i x hx => hx) hq2 hq3 (RL_cells hz2) hl
        refine ⟨.agg B, ?_, _, by simp, h2⟩
        simp only [execOp, ho, Instr.build, Sem.run_bind, hz1, Result.andThen_ok, run_underlying hu, run_sizeOf hs, hparts, h1, Sem.run_pure]
      · cases h
    · cases h
  · cases h

/-- **Whatever leaves the heap alone.** -/
theorem light_sound (hi : Inv ρ w0 j H w) (he : ER ρ j N env a) (h : light P o.op env H = some v) : LS P ρ j w a o v := by
  cases ho : o.op <;> rw [ho] at h
  case move => exact lMove_sound (H := H) he (.inl ho) h
  case assign => exact lMove_sound (H := H) he (.inr ho) h
  case pick => exact lPick_sound (H := H) he ho h
  case build => exact lBuild_sound (H := H) he ho h
  case load => exact lLoad_sound hi he ho h
  case nilCheck => exact lNilCheck_sound (H := H) he ho h
  case binOp => exact lBinOp_sound hi he ho h
  case unOp => exact lUnOp_sound (H := H) he ho h
  case convert => exact lConvert_sound hi he ho h
  case sliceToArrayPointer => exact lArrPtr_sound (H := H) he ho h
  case makeInterface => exact lMakeIface_sound (H := H) he ho h
  case makeFunc => exact lMakeFunc_sound (H := H) he ho h
  case slice => exact lSlice_sound hi he ho h
  case fieldAddr => exact lFieldAddr_sound (H := H) he ho h
  case field => exact lField_sound (H := H) he ho h
  case indexAddr => exact lIndexAddr_sound (H := H) he ho h
  case index => exact lIndex_sound (H := H) he ho h
  case lookup => exact lLookup_sound hi he ho h
  case entry => exact lEntry_sound hi he ho h
  case typeAssert => exact lTypeAssert_sound (H := H) he ho h
  case extract => exact lExtract_sound (H := H) he ho h
  case call => exact lCall_sound hi he ho h
  all_goals cases h

end
end Go.Dw
