/-
  DwPlan3: regions that draw: the invariant, its steps, and the region.
-/
import Derived.Test.YtfpklobgecgnpaaGreatDwPlan2
namespace Go.Dw
set_option linter.unusedSimpArgs false
set_option linter.unusedVariables false

def GV (ρ : Val) : G → Bool → Prop
  | .yes, g => g = true
  | .no, g => g = false
  | .test _ b want, g => (b.den ρ == want) = g
  | .none, _ => False

def DstIs (N : Nat) (env : T AV) (o : Oper) (v : AV) : Prop := ∀ d, o.dst = some d → d < N ∧ env.get d = some v

section
variable {P : Program} {ρ : Val} {w0 : World} {ops : Array Oper} {N : Nat} {env0 : T AV} {H0 : Heap} {j0 : J}
variable {D listed : Nat → Prop} {envS env env' : T AV} {j j' : J} {H H' : Heap} {w w' : World} {a : Act} {nm nm' : Nat → Option Nat} {rec : Task → Ob} {n : Nat} {Q : Exit → Act → World → Prop}

/-! ### Slots alike -/
theorem opd_get {x : Operand} (h : ∀ t, x = .tmp t → env.get t = env'.get t) : opd env x = opd env' x := by
  cases x with
  | tmp t => simp only [opd]; rw [h t rfl]
  | _ => rfl
theorem opds_looks {o : Oper} (h : ∀ t ∈ looks ops o, env.get t = env'.get t) : ∀ x ∈ o.op.operands, opd env x = opd env' x := fun x hx => opd_get fun t e => h t (by
  subst e
  unfold looks
  exact List.mem_append_left _ (List.mem_filterMap.2 ⟨.tmp t, by simpa using hx, rfl⟩))
theorem guardA_congr {o : Oper} (h : ∀ t ∈ looks ops o, env.get t = env'.get t) : guardA ops env o = guardA ops env' o := by
  unfold guardA
  cases hg : o.guard with
  | none => rfl
  | some gw =>
    obtain ⟨i, want⟩ := gw
    simp only
    cases hi : ops[i]? with
    | none => rfl
    | some oj =>
      simp only
      cases hd : oj.dst with
      | none => rfl
      | some t =>
        simp only
        rw [h t (by unfold looks; refine List.mem_append_right _ ?_; simp [hg, hi, hd])]

theorem guard_val (he : ER ρ j N env a) {o : Oper} {g : Bool} (h : GV ρ (guardA ops env o) g) : Region.wanted o (yielded ops a.tmps) = g := by
  have hs := guard_sound he ops o
  cases hG : guardA ops env o with
  | yes => rw [hG] at h hs; have h : g = true := h; rw [h]; exact hs
  | no => rw [hG] at h hs; have h : g = false := h; rw [h]; exact hs
  | none => rw [hG] at h; exact h.elim
  | test t b want =>
    rw [hG] at h hs
    have hb := (slot_bool he hs).2
    have h : (b.den ρ == want) = g := h
    unfold guardA at hG
    split at hG
    · cases hG
    rename_i i want' hg
    split at hG
    · cases hG
    rename_i oj hi
    split at hG
    · cases hG
    rename_i t' hd
    split at hG
    · cases hG
    · split at hG <;> cases hG
    · split at hG <;> cases hG
    · cases hG
      unfold Region.wanted
      rw [hg]
      simp only [yielded, hi, Option.bind_some, hd, hb]
      rw [← h]
      cases b.den ρ <;> cases want <;> rfl
    · cases hG
    · cases hG

/-! ### Steps of a plan -/
theorem planRun_run {o : Oper} {k : T AV → Heap → Ob} {rest : List PStep} (h : Ob.den ρ (planRun P rec ops N k (.run o :: rest) env H)) :
    ∃ g, GV ρ (guardA ops env o) g ∧ Ob.den ρ (planOp P rec o N (planRun P rec ops N k rest) env H g) := by
  unfold planRun at h
  cases hG : guardA ops env o with
  | yes => rw [hG] at h; exact ⟨true, rfl, h⟩
  | no => rw [hG] at h; exact ⟨false, rfl, h⟩
  | none => rw [hG] at h; exact h.elim
  | test t b want =>
    rw [hG] at h
    obtain ⟨h1, h2⟩ := h
    cases hb : b.den ρ with
    | true => exact ⟨want, by show (b.den ρ == want) = want; rw [hb]; cases want <;> rfl, h1 hb⟩
    | false =>
      cases want with
      | true => exact ⟨false, by show (b.den ρ == true) = false; rw [hb]; rfl, h2 hb⟩
      | false => exact ⟨true, by show (b.den ρ == false) = true; rw [hb]; rfl, h2 hb⟩
theorem planRun_chk {os : List Oper} {k : T AV → Heap → Ob} {rest : List PStep} (h : Ob.den ρ (planRun P rec ops N k (.chk os :: rest) env H)) :
    chkA P ops env H os = true ∧ Ob.den ρ (planRun P rec ops N k rest env H) := by
  unfold planRun at h
  split at h
  · rename_i hc; exact ⟨hc, h⟩
  · exact h.elim
theorem putA_den {dst : Option Tmp} {v : AV} {kk : T AV → Ob} (h : Ob.den ρ (putA dst N env v kk)) :
    ∃ env', Ob.den ρ (kk env') ∧ (∀ d, dst = some d → d < N ∧ env'.get d = some v) ∧ (∀ t, dst ≠ some t → env'.get t = env.get t) := by
  unfold putA at h
  split at h
  · exact ⟨env, h, ⟨fun d e => (by cases e), fun _ _ => rfl⟩⟩
  · rename_i d
    split at h
    · rename_i hb
      rw [Nat.blt_eq] at hb
      refine ⟨_, h, fun d' e => ?_, fun t ht => ?_⟩
      · cases e; exact ⟨hb, by rw [T.get_set, if_pos rfl]⟩
      · rw [T.get_set, if_neg (fun e => ht (by rw [e]))]
    · exact h.elim
theorem chkA_at : ∀ {os : List Oper}, chkA P ops env H os = true → ∀ o ∈ os, guardA ops env o = .no ∨ (guardA ops env o = .yes ∧ ∃ v, light P o.op env H = some v ∧ ∀ d, o.dst = some d → env.get d = some v)
  | [], _, o, ho => by cases ho
  | q :: os, h, o, ho => by
    unfold chkA at h
    have hrest : chkA P ops env H os = true := by
      split at h
      · exact h
      · split at h
        · split at h
          · split at h
            · exact h
            · cases h
          · cases h
        · exact h
        · cases h
      · cases h
    rcases List.mem_cons.1 ho with rfl | ho
    · split at h
      · rename_i hg; exact .inl hg
      · rename_i hg
        refine .inr ⟨hg, ?_⟩
        split at h
        · rename_i v d hl hd
          split at h
          · rename_i u hu
            split at h
            · rename_i hb
              refine ⟨v, hl, fun d' e => ?_⟩
              rw [hd] at e; cases e
              rw [hu, AV.beq_eq hb]
            · cases h
          · cases h
        · rename_i v hl hd
          exact ⟨v, hl, fun d' e => by rw [hd] at e; cases e⟩
        · cases h
      · cases h
    · exact chkA_at hrest o ho

theorem ER.putS (he : ER ρ j N envS a) {o : Oper} {v : AV} {u : Value} (hR : R ρ j v u) (hd : ∀ d, o.dst = some d → d < N) :
    ∃ envS', ER ρ j N envS' (a.put o.dst u) ∧ (∀ d, o.dst = some d → envS'.get d = some v) ∧ (∀ t, o.dst ≠ some t → envS'.get t = envS.get t) := by
  cases hdst : o.dst with
  | none => exact ⟨envS, he, ⟨fun d e => (by cases e), fun _ _ => rfl⟩⟩
  | some d =>
    refine ⟨envS.set d v, he.put (hd d hdst) hR, fun d' e => ?_, fun t ht => ?_⟩
    · cases e; rw [T.get_set, if_pos rfl]
    · rw [T.get_set, if_neg (fun e => ht (by rw [e]))]

/-! ### The invariant -/
/-- What is known of an operation that the canonical run has done, and the run at hand has not. -/
def Done (P : Program) (N : Nat) (H0 : Heap) (env envR : T AV) (H : Heap) (j : J) (nm : Option Nat) (o : Oper) (g : Bool) : Prop :=
  (g = true ∧ clsOf o.op = .light ∧ ∃ v, light P o.op envR H = some v ∧ DstIs N env o v) ∨
  (g = true ∧ clsOf o.op = .alloc ∧ ∃ v ob nx, nm = some nx ∧ allocA P o.op envR nx = some (v, ob) ∧ H.m.get nx = some ob ∧ j nx = none ∧ H0.nx ≤ nx ∧ DstIs N env o v) ∨
  (g = false ∧ DstIs N env o undefA)
def Looked (ops : Array Oper) (env0 env envR : T AV) (i : Nat) (o : Oper) : Prop :=
  ∀ t ∈ looks ops o, (∀ q oq, (mkOf ops i).testBit q = true → ops[q]? = some oq → oq.dst = some t → envR.get t = env.get t) ∧
    ((∀ q oq, (mkOf ops i).testBit q = true → ops[q]? = some oq → oq.dst ≠ some t) → envR.get t = env0.get t)
def RecOk (P : Program) (ρ : Val) (ops : Array Oper) (N : Nat) (env0 : T AV) (H0 : Heap) (env : T AV) (H : Heap) (j : J) (nm : Option Nat) (i : Nat) (o : Oper) : Prop :=
  ∃ envR g, GV ρ (guardA ops envR o) g ∧ Looked ops env0 env envR i o ∧ Done P N H0 env envR H j nm o g

structure CI (P : Program) (ρ : Val) (w0 : World) (ops : Array Oper) (N : Nat) (env0 : T AV) (H0 : Heap) (j0 : J) (D listed : Nat → Prop) (envS env : T AV) (j : J) (H : Heap) (w : World) (nm : Nat → Option Nat) : Prop where
  inv : Inv ρ w0 j H w
  st : St j0 H0 j H
  sub : ∀ i, listed i → D i
  e0 : ∀ t, (∀ i o, D i → ops[i]? = some o → o.dst ≠ some t) → env.get t = env0.get t
  s0 : ∀ t, (∀ i o, listed i → ops[i]? = some o → o.dst ≠ some t) → envS.get t = env0.get t
  s1 : ∀ t i o, listed i → ops[i]? = some o → o.dst = some t → envS.get t = env.get t
  recd : ∀ i o, D i → ¬ listed i → ops[i]? = some o → RecOk P ρ ops N env0 H0 env H j (nm i) i o
  bnd : ∀ i nx, nm i = some nx → nx < H.nx
  inj : ∀ i i' nx, nm i = some nx → nm i' = some nx → i = i'

theorem CI.congr {D' : Nat → Prop} (h : ∀ i, D i ↔ D' i) (ci : CI P ρ w0 ops N env0 H0 j0 D listed envS env j H w nm) : CI P ρ w0 ops N env0 H0 j0 D' listed envS env j H w nm := by
  have e : D = D' := funext fun i => propext (h i)
  rw [← e]; exact ci

/-- One more done by the canonical run. -/
theorem CI.put (pf : PF ops) (ci : CI P ρ w0 ops N env0 H0 j0 D listed envS env j H w nm) {p : Nat} {o : Oper} (ho : ops[p]? = some o) (hp : ¬ D p)
    (hcl : ∀ i x, D i → (mkOf ops i).testBit x = true → D x) (hinv : Inv ρ w0 j H' w) (hst : St j0 H0 j H') (hext : Ext H H') (hnx : H.nx ≤ H'.nx)
    (henv : ∀ t, o.dst ≠ some t → env'.get t = env.get t) (hnm : ∀ i, i ≠ p → nm' i = nm i) (hbnd : ∀ i nx, nm' i = some nx → nx < H'.nx) (hinj : ∀ i i' nx, nm' i = some nx → nm' i' = some nx → i = i')
    (hrec : Looked ops env0 env' env p o → RecOk P ρ ops N env0 H0 env' H' j (nm' p) p o) (hm : ∀ x, (mkOf ops p).testBit x = true → D x) :
    CI P ρ w0 ops N env0 H0 j0 (fun x => D x ∨ x = p) listed envS env' j H' w nm' := by
  have hne : ∀ i, D i → i ≠ p := fun i hi e => hp (e ▸ hi)
  have hkeep : ∀ i oi t, D i → ops[i]? = some oi → oi.dst = some t → env'.get t = env.get t := fun i oi t hi hoi hd =>
    henv t (pf.dsts i p oi o t (hne i hi) hoi ho hd)
  refine ⟨hinv, hst, fun i hi => .inl (ci.sub i hi), fun t ht => ?_, ci.s0, fun t i oi hi hoi hd => ?_, fun i oi hi hl hoi => ?_, hbnd, hinj⟩
  · rw [henv t (ht p o (.inr rfl) ho)]
    exact ci.e0 t fun i oi hi hoi => ht i oi (.inl hi) hoi
  · rw [ci.s1 t i oi hi hoi hd, hkeep i oi t (ci.sub i hi) hoi hd]
  · by_cases hip : i = p
    · subst hip
      rw [ho] at hoi; cases hoi
      refine hrec fun t ht => ⟨fun q oq hq hoq hd => (hkeep q oq t (hm q hq) hoq hd).symm, fun hno => ci.e0 t fun q oq hq hoq hd => ?_⟩
      rcases pf.reads i q o oq t ho hoq hd ht with h | h
      · exact hno q oq h hoq hd
      · exact hp (hcl q i hq h)
    · have hDi : D i := hi.resolve_right hip
      obtain ⟨envR, g, h1, h2, h3⟩ := ci.recd i oi hDi hl hoi
      have hdst : ∀ v, DstIs N env oi v → DstIs N env' oi v := fun v hv d hd => ⟨(hv d hd).1, by rw [hkeep i oi d hDi hoi hd]; exact (hv d hd).2⟩
      refine ⟨envR, g, h1, fun t ht => ⟨fun q oq hq hoq hd => ?_, (h2 t ht).2⟩, ?_⟩
      · rw [(h2 t ht).1 q oq hq hoq hd, hkeep q oq t (hcl i q hDi hq) hoq hd]
      · rw [hnm i hip]
        rcases h3 with ⟨g1, g2, v, g3, g4⟩ | ⟨g1, g2, v, ob, nx, g3, g4, g5, g6, g7, g8⟩ | ⟨g1, g2⟩
        · exact .inl ⟨g1, g2, v, light_mono hext g3, hdst v g4⟩
        · exact .inr (.inl ⟨g1, g2, v, ob, nx, g3, g4, hext.m _ _ g5, g6, g7, hdst v g8⟩)
        · exact .inr (.inr ⟨g1, hdst _ g2⟩)

theorem ext_alloc {o : Obj} (hi : Inv ρ w0 j H w) : Ext H (H.alloc o) := by
  rw [Heap.alloc_eq]
  refine ⟨fun n o' h => ?_, rfl⟩
  have := hi.used n o' h
  show (H.m.set H.nx o).get n = _
  rw [T.get_set, if_neg (by omega)]
  exact h

theorem cls_light {o : Oper} (h : isLight o = true) : clsOf o.op = .light := by
  unfold isLight at h; split at h
  · assumption
  · cases h
theorem light_cls {o : Oper} (h : clsOf o.op = .light) : isLight o = true := by unfold isLight; rw [h]
theorem cls_heavy {o : Oper} (h : isHeavy o = true) (hd : isDefer o = false) : clsOf o.op = .heavy := by
  unfold isHeavy at h; unfold isDefer at hd
  cases hc : clsOf o.op <;> rw [hc] at h hd <;> first | rfl | exact absurd hd Bool.noConfusion | exact absurd h Bool.noConfusion
theorem cls_other {o : Oper} (h : isHeavy o = false) : clsOf o.op = .light ∨ clsOf o.op = .alloc := by
  unfold isHeavy at h
  cases hc : clsOf o.op <;> rw [hc] at h <;> first | exact .inl rfl | exact .inr rfl | exact absurd h (by simp)

theorem alloc_closed {op : Op} {nx : Nat} {v : AV} {ob : Obj} (h : allocA P op env nx = some (v, ob)) : ∀ v' e g t sh ow, ob ≠ .cells v' e g (some t) sh ow := by
  intro v' e g t sh ow hob
  subst hob
  cases op <;> simp only [allocA, aNo] at h <;> try (cases h; done)
  case alloc t' => unfold aAlloc newCells at h; split at h <;> cases h
  case box t' x => unfold aBox newCells at h; split at h <;> cases h
  case buildSlice t' len parts =>
    unfold aBuildSlice newCells at h
    split at h
    · split at h
      · split at h
        · split at h <;> cases h
        · cases h
      · cases h
    · cases h
  case makeMap t' r =>
    unfold aMakeMap at h
    split at h
    · cases h
    · split at h <;> cases h
  case makeSlice t' l c =>
    unfold aMakeSlice at h
    split at h
    · split at h
      · split at h
        · split at h <;> cases h
        · cases h
      · cases h
    · cases h

/-- The canonical run does one more operation that is not heavy. -/
theorem CI.cstep (pf : PF ops) (ci : CI P ρ w0 ops N env0 H0 j0 D listed envS env j H w nm) {p : Nat} {o : Oper} (ho : ops[p]? = some o) (hv : isHeavy o = false) (hp : ¬ D p)
    (hcl : ∀ i x, D i → (mkOf ops i).testBit x = true → D x) (hm : ∀ x, (mkOf ops p).testBit x = true → D x) {k : T AV → Heap → Ob} {rest : List PStep}
    (h : Ob.den ρ (planRun P rec ops N k (.run o :: rest) env H)) :
    ∃ env' H' nm', CI P ρ w0 ops N env0 H0 j0 (fun x => D x ∨ x = p) listed envS env' j H' w nm' ∧ Ob.den ρ (planRun P rec ops N k rest env' H') := by
  obtain ⟨g, hg, hd⟩ := planRun_run h
  cases g with
  | false =>
    obtain ⟨env', h1, h2, h3⟩ := putA_den (kk := fun env' => planRun P rec ops N k rest env' H) hd
    exact ⟨env', H, nm, ci.put pf ho hp hcl ci.inv ci.st (Ext.refl H) (Nat.le_refl _) h3 (fun _ _ => rfl) ci.bnd ci.inj (fun hl => ⟨env, false, hg, hl, .inr (.inr ⟨rfl, h2⟩)⟩) hm, h1⟩
  | true =>
    have hd : Ob.den ρ (doOp P rec o env H fun env v H => putA o.dst N env v fun env' => planRun P rec ops N k rest env' H) := hd
    unfold doOp at hd
    rcases cls_other hv with hc | hc
    · rw [hc] at hd
      have hd : Ob.den ρ (okL o H (fun v H => putA o.dst N env v fun env' => planRun P rec ops N k rest env' H) (light P o.op env H)) := hd
      cases hl : light P o.op env H with
      | none => rw [hl] at hd; exact hd.elim
      | some v =>
        rw [hl] at hd
        obtain ⟨env', h1, h2, h3⟩ := putA_den (kk := fun env' => planRun P rec ops N k rest env' H) hd
        exact ⟨env', H, nm, ci.put pf ho hp hcl ci.inv ci.st (Ext.refl H) (Nat.le_refl _) h3 (fun _ _ => rfl) ci.bnd ci.inj (fun hlk => ⟨env, true, hg, hlk, .inl ⟨rfl, hc, v, hl, h2⟩⟩) hm, h1⟩
    · rw [hc] at hd
      have hd : Ob.den ρ (okA o H (fun v H => putA o.dst N env v fun env' => planRun P rec ops N k rest env' H) (allocA P o.op env H.nx)) := hd
      cases hl : allocA P o.op env H.nx with
      | none => rw [hl] at hd; exact hd.elim
      | some q =>
        obtain ⟨v, ob⟩ := q
        rw [hl] at hd
        obtain ⟨env', h1, h2, h3⟩ := putA_den (kk := fun env' => planRun P rec ops N k rest env' (H.alloc ob)) hd
        have hnx : (H.alloc ob).nx = H.nx + 1 := by rw [Heap.alloc_eq]
        have hinv : Inv ρ w0 j (H.alloc ob) w := ci.inv.extend ob (fun v' e g t sh ow hob => absurd hob (alloc_closed hl v' e g t sh ow))
        refine ⟨env', H.alloc ob, fun i => if i = p then some H.nx else nm i, ci.put pf ho hp hcl hinv (ci.st.trans (St.extend ci.inv ob)) (ext_alloc ci.inv) (by omega) h3 (fun i hi => if_neg hi) (fun i nx hi => ?_) (fun i i' nx h1 h2 => ?_) (fun hlk => ⟨env, true, hg, hlk, .inr (.inl ⟨rfl, hc, v, ob, H.nx, if_pos rfl, hl, ?_, ci.inv.fresh, ci.st.nx, h2⟩)⟩) hm, h1⟩
        · by_cases hip : i = p
          · rw [if_pos hip] at hi; cases hi; omega
          · rw [if_neg hip] at hi; have := ci.bnd i nx hi; omega
        · by_cases hip : i = p <;> by_cases hip' : i' = p
          · rw [hip, hip']
          · rw [if_pos hip] at h1; rw [if_neg hip'] at h2; cases h1; exact absurd (ci.bnd i' _ h2) (Nat.lt_irrefl _)
          · rw [if_neg hip] at h1; rw [if_pos hip'] at h2; cases h2; exact absurd (ci.bnd i _ h1) (Nat.lt_irrefl _)
          · rw [if_neg hip] at h1; rw [if_neg hip'] at h2; exact ci.inj i i' nx h1 h2
        · rw [Heap.alloc_eq]
          show (H.m.set H.nx ob).get H.nx = _
          rw [T.get_set, if_pos rfl]

/-- The canonical run does a stage. -/
theorem stage_run (pf : PF ops) {k : T AV → Heap → Ob} {rest : List PStep} {s : Nat} : ∀ (l : List Oper) (ms : List Nat) (n : Nat) (env : T AV) (H : Heap) (nm : Nat → Option Nat), l = ops.toList.drop n → ms = (masks ops.toList).drop n →
    CI P ρ w0 ops N env0 H0 j0 (DD ops s n) listed envS env j H w nm → Ob.den ρ (planRun P rec ops N k (runsOf s (posOf (hsOf ops) l ms n) ++ rest) env H) →
    ∃ env' H' nm', CI P ρ w0 ops N env0 H0 j0 (DD ops s ops.size) listed envS env' j H' w nm' ∧ Ob.den ρ (planRun P rec ops N k rest env' H')
  | [], ms, n, env, H, nm, hl, hms, ci, h => by
    have hn : ops.size ≤ n := by have := hl.symm; rw [List.drop_eq_nil_iff] at this; simpa using this
    have e : posOf (hsOf ops) [] ms n = [] := by simp [posOf]
    rw [e] at h
    exact ⟨env, H, nm, ci.congr (DD_size hn), h⟩
  | o :: l, ms, n, env, H, nm, hl, hms, ci, h => by
    have ho : ops[n]? = some o := by
      have := congrArg (·[0]?) hl
      simp only [List.getElem?_cons_zero, List.getElem?_drop, Nat.add_zero] at this
      simpa using this.symm
    have hlt := (Array.getElem?_eq_some_iff.1 ho).1
    have hl' : l = ops.toList.drop (n + 1) := by
      have := congrArg List.tail hl
      simpa using this
    cases hmse : ms with
    | nil =>
      rw [hmse] at hms
      have := hms.symm
      rw [List.drop_eq_nil_iff, masks_length] at this
      simp at this; omega
    | cons m ms' =>
      rw [hmse] at hms h
      have hm : m = mkOf ops n := by
        have := congrArg (·[0]?) hms
        simp only [List.getElem?_cons_zero, List.getElem?_drop, Nat.add_zero] at this
        unfold mkOf
        rw [List.getD_eq_getElem?_getD, ← this]; rfl
      have hms' : ms' = (masks ops.toList).drop (n + 1) := by
        have := congrArg List.tail hms
        simpa using this
      unfold posOf at h
      unfold runsOf at h
      have hst : stageN m (hsOf ops) 0 0 = stOf ops n := by rw [hm]; rfl
      simp only [hst] at h
      split at h
      · rename_i hv hs
        have hs := Nat.eq_of_beq_eq_true hs
        have hnD : ¬ DD ops s n n := by
          rintro ⟨o', h1, h2⟩
          rw [ho] at h1; cases h1
          rcases h2 with ⟨_, h2⟩ | ⟨h2, _⟩
          · omega
          · rw [hv] at h2; cases h2
        obtain ⟨env', H', nm', h1, h2⟩ := ci.cstep pf ho hv hnD (fun i x hi hx => DD_mask pf.edges hi hx) (fun x hx => DD_next pf.edges hs hx) h
        exact stage_run pf l ms' (n + 1) env' H' nm' hl' hms' (h1.congr (DD_succ ho hv hs)) h2
      · rename_i hne
        refine stage_run pf l ms' (n + 1) env H nm hl' hms' (ci.congr (DD_skip ho ?_)) h
        cases hv : isHeavy o with
        | true => exact .inl rfl
        | false => exact .inr fun e => hne hv (by rw [e]; exact Nat.beq_refl s)

/-! ### The run at hand -/
/-- It lists one that the canonical run has done already. -/
theorem CI.list (pf : PF ops) (ci : CI P ρ w0 ops N env0 H0 j0 D listed envS env j H w nm) {i : Nat} {o : Oper} {envS' : T AV} (ho : ops[i]? = some o) (hD : D i)
    (hinv : Inv ρ w0 j' H w') (hst : St j0 H0 j' H) (hd : ∀ d, o.dst = some d → envS'.get d = env.get d) (hn : ∀ t, o.dst ≠ some t → envS'.get t = envS.get t)
    (hj : ∀ i' nx, i' ≠ i → nm i' = some nx → j nx = none → j' nx = none) :
    CI P ρ w0 ops N env0 H0 j0 D (fun x => listed x ∨ x = i) envS' env j' H w' nm := by
  refine ⟨hinv, hst, fun x hx => hx.elim (ci.sub x) fun e => e ▸ hD, ci.e0, fun t ht => ?_, fun t x ox hx hox hdx => ?_, fun x ox hx hl hox => ?_, ci.bnd, ci.inj⟩
  · rw [hn t (ht i o (.inr rfl) ho)]
    exact ci.s0 t fun x ox hx hox => ht x ox (.inl hx) hox
  · by_cases hxi : x = i
    · subst hxi
      rw [ho] at hox; cases hox
      exact hd t hdx
    · rw [hn t (pf.dsts x i ox o t hxi hox ho hdx)]
      exact ci.s1 t x ox (hx.resolve_right hxi) hox hdx
  · have hxi : x ≠ i := fun e => hl (.inr e)
    obtain ⟨envR, g, h1, h2, h3⟩ := ci.recd x ox hx (fun h => hl (.inl h)) hox
    refine ⟨envR, g, h1, h2, ?_⟩
    rcases h3 with h3 | ⟨g1, g2, v, ob, nx, g3, g4, g5, g6, g7, g8⟩ | h3
    · exact .inl h3
    · exact .inr (.inl ⟨g1, g2, v, ob, nx, g3, g4, g5, hj x nx hxi g3 g6, g7, g8⟩)
    · exact .inr (.inr h3)

theorem CI.late (pf : PF ops) (ci : CI P ρ w0 ops N env0 H0 j0 D listed envS env j H w nm) (he : ER ρ j N envS a) {i : Nat} {o : Oper} (ho : ops[i]? = some o) (hD : D i) (hl : ¬ listed i)
    (hm : ∀ x, (mkOf ops i).testBit x = true → listed x) (hlc : ∀ q x, listed q → (mkOf ops q).testBit x = true → listed x) {K : Act → World → Prop}
    (hK : ∀ envS' j' a' w', CI P ρ w0 ops N env0 H0 j0 D (fun x => listed x ∨ x = i) envS' env j' H w' nm → ER ρ j' N envS' a' → K a' w') : wpOp P ops Q i K a w := by
  obtain ⟨envR, g, hg, hlook, hdone⟩ := ci.recd i o hD hl ho
  have hag : ∀ t ∈ looks ops o, envS.get t = envR.get t := fun t ht => by
    by_cases hw : ∃ q oq, (mkOf ops i).testBit q = true ∧ ops[q]? = some oq ∧ oq.dst = some t
    · obtain ⟨q, oq, h1, h2, h3⟩ := hw
      rw [ci.s1 t q oq (hm q h1) h2 h3, (hlook t ht).1 q oq h1 h2 h3]
    · rw [(hlook t ht).2 (fun q oq h1 h2 h3 => hw ⟨q, oq, h1, h2, h3⟩)]
      refine ci.s0 t fun q oq h1 h2 h3 => ?_
      rcases pf.reads i q o oq t ho h2 h3 ht with h4 | h4
      · exact hw ⟨q, oq, h4, h2, h3⟩
      · exact hl (hlc q i h1 h4)
  rw [← guardA_congr hag] at hg
  have hwant := guard_val he hg
  have hops := opds_looks hag
  unfold wpOp
  simp only [ho]
  rw [hwant]
  rcases hdone with ⟨rfl, hc, v, hv, hd⟩ | ⟨rfl, hc, v, ob, nx, hnm, hv, hH, hj, hnx, hd⟩ | ⟨rfl, hd⟩
  · rw [if_pos rfl]
    left
    rw [← light_congr hops] at hv
    obtain ⟨u, h1, h2⟩ := light_sound ci.inv he hv
    unfold Oper.wp
    rw [h1, Oper.upon_value]
    obtain ⟨envS', e1, e2, e3⟩ := he.putS h2 (fun d hh => (hd d hh).1)
    exact hK envS' j _ _ (ci.list pf ho hD ci.inv ci.st (fun d hh => by rw [e2 d hh, (hd d hh).2]) e3 (fun _ _ _ _ h => h)) e1
  · rw [if_pos rfl]
    left
    rw [← allocA_congr hops] at hv
    obtain ⟨⟨u, obj, h1, h2, h3⟩, h4⟩ := allocA_sound (P := P) (w := w) he hv
    unfold Oper.wp
    rw [h1, Oper.upon_value]
    have hinv := ci.inv.adopt hH hj h2 (fun v e g cl sh hob => by subst hob; exact .inl h4)
    have hst : St j0 H0 (jset j nx ⟨w.heap.size, 0, 0⟩) H := by
      refine ⟨ci.st.sub.trans (sub_jset hj), fun m L e e0 => ?_, ci.st.keep, ci.st.nx⟩
      by_cases hm : m = nx
      · omega
      · rw [jset_ne _ _ hm] at e; exact ci.st.fresh m L e e0
    obtain ⟨envS', e1, e2, e3⟩ := (he.mono (sub_jset hj)).putS h3 (fun d hh => (hd d hh).1)
    refine hK envS' _ _ _ (ci.list pf ho hD hinv hst (fun d hh => by rw [e2 d hh, (hd d hh).2]) e3 (fun i' nx' hne hnm' hj' => ?_)) e1
    rw [jset_ne _ _ (fun e => hne (ci.inj i' i nx' hnm' (by rw [e]; exact hnm)))]
    exact hj'
  · rw [if_neg (by simp)]
    obtain ⟨envS', e1, e2, e3⟩ := he.putS (o := o) R_undef (fun d hh => (hd d hh).1)
    exact hK envS' j _ _ (ci.list pf ho hD ci.inv ci.st (fun d hh => by rw [e2 d hh, (hd d hh).2]) e3 (fun _ _ _ _ h => h)) e1

/-- It does a heavy one, and the canonical run with it. -/
theorem CI.heavy (hgood : Good P ρ w0 n rec) (pf : PF ops) (ci : CI P ρ w0 ops N env0 H0 j0 D listed envS env j H w nm) (he : ER ρ j N envS a) {h u : Nat} {o : Oper} (ho : ops[h]? = some o) (hv : isHeavy o = true) (hD : ¬ D h)
    (hcl : ∀ i x, D i → (mkOf ops i).testBit x = true → D x) (hm : ∀ x, (mkOf ops h).testBit x = true → listed x) (hu : (hsOf ops)[u]? = some h)
    (hDs : ∀ i oi, D i → ops[i]? = some oi → stOf ops i ≤ u) {k : T AV → Heap → Ob} {rest : List PStep}
    (hden : Ob.den ρ (planRun P rec ops N k (.run o :: .chk (rereads u (mkOf ops h) (allOf ops)) :: rest) env H)) {K : Act → World → Prop}
    (hK : ∀ envS' env' j' H' a' w', CI P ρ w0 ops N env0 H0 j0 (fun x => D x ∨ x = h) (fun x => listed x ∨ x = h) envS' env' j' H' w' nm → ER ρ j' N envS' a' → Ob.den ρ (planRun P rec ops N k rest env' H') → K a' w') :
    wpOp P ops Q h K a w := by
  have hag : ∀ t ∈ looks ops o, envS.get t = env.get t := fun t ht => by
    by_cases hw : ∃ q oq, listed q ∧ ops[q]? = some oq ∧ oq.dst = some t
    · obtain ⟨q, oq, h1, h2, h3⟩ := hw
      exact ci.s1 t q oq h1 h2 h3
    · rw [ci.s0 t fun q oq h1 h2 h3 => hw ⟨q, oq, h1, h2, h3⟩, ci.e0 t fun q oq h1 h2 h3 => ?_]
      rcases pf.reads h q o oq t ho h2 h3 ht with h4 | h4
      · exact hw ⟨q, oq, hm q h4, h2, h3⟩
      · exact hD (hcl q h h1 h4)
  obtain ⟨g, hgv, hd⟩ := planRun_run hden
  have hwant := guard_val he (by rw [guardA_congr hag]; exact hgv)
  have main : ∀ (v : AV) (x : Value) (H' : Heap) (j' : J) (w' : World), R ρ j' v x → Inv ρ w0 j' H' w' → St j H j' H' →
      Ob.den ρ (putA o.dst N env v fun env' => planRun P rec ops N k (.chk (rereads u (mkOf ops h) (allOf ops)) :: rest) env' H') → K (a.put o.dst x) w' := by
    intro v x H' j' w' hR hinv hst hput
    obtain ⟨env', h5, h6, h7⟩ := putA_den hput
    obtain ⟨hchk, h8⟩ := planRun_chk h5
    obtain ⟨envS', e1, e2, e3⟩ := (he.mono hst.sub).putS hR (fun d hh => (h6 d hh).1)
    have hne : ∀ i, D i → i ≠ h := fun i hi e => hD (e ▸ hi)
    have hkeep : ∀ i oi t, D i → ops[i]? = some oi → oi.dst = some t → env'.get t = env.get t := fun i oi t hi hoi hdd => h7 t (pf.dsts i h oi o t (hne i hi) hoi ho hdd)
    have he0 : ∀ t, (∀ i oi, (D i ∨ i = h) → ops[i]? = some oi → oi.dst ≠ some t) → env'.get t = env0.get t := fun t ht => by
      rw [h7 t (ht h o (.inr rfl) ho)]
      exact ci.e0 t fun i oi hi hoi => ht i oi (.inl hi) hoi
    refine hK envS' env' j' H' _ w' ⟨hinv, ci.st.trans hst, fun i hi => hi.imp (ci.sub i) id, he0, fun t ht => ?_, fun t i oi hi hoi hdd => ?_, fun i oi hi hl hoi => ?_, fun i nx hi => Nat.lt_of_lt_of_le (ci.bnd i nx hi) hst.nx, ci.inj⟩ e1 h8
    · rw [e3 t (ht h o (.inr rfl) ho)]
      exact ci.s0 t fun i oi hi hoi => ht i oi (.inl hi) hoi
    · by_cases hih : i = h
      · subst hih
        rw [ho] at hoi; cases hoi
        rw [e2 t hdd, (h6 t hdd).2]
      · have hli := hi.resolve_right hih
        rw [e3 t (pf.dsts i h oi o t hih hoi ho hdd), hkeep i oi t (ci.sub i hli) hoi hdd]
        exact ci.s1 t i oi hli hoi hdd
    · have hih : i ≠ h := fun e => hl (.inr e)
      have hDi : D i := hi.resolve_right hih
      have hli : ¬ listed i := fun e => hl (.inl e)
      obtain ⟨envR, g', q1, q2, q3⟩ := ci.recd i oi hDi hli hoi
      have hdst : ∀ v, DstIs N env oi v → DstIs N env' oi v := fun v hv d hd => ⟨(hv d hd).1, by rw [hkeep i oi d hDi hoi hd]; exact (hv d hd).2⟩
      have q2' : Looked ops env0 env' envR i oi := fun t ht => ⟨fun q oq hq hoq hdd => by rw [(q2 t ht).1 q oq hq hoq hdd, hkeep q oq t (hcl i q hDi hq) hoq hdd], (q2 t ht).2⟩
      refine ⟨envR, g', q1, q2', ?_⟩
      rcases q3 with ⟨rfl, g2, v', g3, g4⟩ | ⟨g1, g2, v', ob, nx, g3, g4, g5, g6, g7, g8⟩ | ⟨g1, g2⟩
      · have hlight := light_cls g2
        have hbit : (mkOf ops h).testBit i = false := by
          cases hb : (mkOf ops h).testBit i with
          | false => rfl
          | true => exact absurd (hm i hb) hli
        have hst' := hDs i oi hDi hoi
        have hag' : ∀ t ∈ looks ops oi, env'.get t = envR.get t := fun t ht => by
          by_cases hw : ∃ (q : Nat) (oq : Oper), ops[q]? = some oq ∧ oq.dst = some t
          · obtain ⟨q, oq, w1, w2⟩ := hw
            rcases pf.rer u h i q oi oq t hu hoi hlight hst' hbit w1 w2 ht with hq | hq
            · exact ((q2' t ht).1 q oq hq w1 w2).symm
            · have uniq : ∀ q' oq', ops[q']? = some oq' → oq'.dst = some t → q' = q := fun q' oq' x1 x2 => Classical.byContradiction fun hn => pf.dsts q' q oq' oq t hn x1 w1 x2 w2
              rw [(q2' t ht).2 fun q' oq' x0 x1 x2 => ?_]
              · refine he0 t fun q' oq' x0 x1 x2 => ?_
                have := uniq q' oq' x1 x2
                subst this
                rcases x0 with x0 | rfl
                · have := hDs q' oq' x0 x1; omega
                · have := st_heavy_le pf.edges hu; omega
              · have := uniq q' oq' x1 x2
                subst this
                have := st_mono pf.edges x0
                omega
          · rw [(q2' t ht).2 fun q oq _ w1 w2 => hw ⟨q, oq, w1, w2⟩]
            exact he0 t fun q oq _ w1 w2 => hw ⟨q, oq, w1, w2⟩
        have hmem : oi ∈ rereads u (mkOf ops h) (allOf ops) := mem_opersOf.2 ⟨_, mem_rereadsP.2 ⟨all_mem hoi, hlight, hst', hbit⟩, rfl⟩
        rw [← guardA_congr hag'] at q1
        rcases chkA_at hchk oi hmem with hno | ⟨hyes, v1, c1, c2⟩
        · rw [hno] at q1; cases q1
        · exact .inl ⟨rfl, g2, v1, by rw [← light_congr (opds_looks hag')]; exact c1, fun d hh => ⟨(g4 d hh).1, c2 d hh⟩⟩
      · have hlt := ci.inv.used nx ob g5
        refine .inr (.inl ⟨g1, g2, v', ob, nx, g3, g4, by rw [(hst.keep nx g6 hlt).1]; exact g5, ?_, g7, hdst v' g8⟩)
        cases hj' : j' nx with
        | none => rfl
        | some L => have := hst.fresh nx L hj' g6; omega
      · exact .inr (.inr ⟨g1, hdst _ g2⟩)
  unfold wpOp
  simp only [ho]
  rw [hwant]
  cases g with
  | true =>
    rw [if_pos rfl]
    have hd : Ob.den ρ (doOp P rec o env H fun env v H => putA o.dst N env v fun env' => planRun P rec ops N k (.chk (rereads u (mkOf ops h) (allOf ops)) :: rest) env' H) := hd
    unfold doOp at hd
    rw [cls_heavy hv (pf.nodef h o ho)] at hd
    have hd : Ob.den ρ (Dw.heavy P rec o.op env H fun v H => putA o.dst N env v fun env' => planRun P rec ops N k (.chk (rereads u (mkOf ops h) (allOf ops)) :: rest) env' H) := hd
    rw [← heavy_congr (opds_looks hag)] at hd
    refine .inl (Oper.wp_mono (fun a' w' hp => ?_) (heavy_ok (Q := Q) hgood ci.inv he hd))
    obtain ⟨x, rfl, v, H', j', h1, h2, h3, h4⟩ := hp
    exact main v x H' j' w' h1 h2 h3 h4
  | false =>
    rw [if_neg (by simp)]
    exact main undefA undef H j w R_undef ci.inv (St.refl j H) hd

/-! ### The region -/
def tailOf (ops : Array Oper) (s : Nat) : List PO → List PStep
  | [] => []
  | h :: rest => .run h.o :: .chk (rereads s h.m (allOf ops)) :: planFrom (allOf ops) (Nat.succ s) rest
theorem planFrom_eq (ops : Array Oper) (s : Nat) (l : List PO) : planFrom (allOf ops) s l = runsOf s (allOf ops) ++ tailOf ops s l := by
  cases l with
  | nil => simp [planFrom, tailOf]
  | cons h l => simp [planFrom, tailOf]

theorem count_set {listed : Array Bool} {i : Nat} (h : listed.getD i true = false) : (listed.setIfInBounds i true).count false + 1 = listed.count false := by
  have hlt : i < listed.size := by
    apply Classical.byContradiction
    intro hn
    rw [Array.getD_eq_getD_getElem?, Array.getElem?_eq_none (by omega)] at h
    cases h
  have hf : listed[i] = false := by
    rw [Array.getD_eq_getD_getElem?, Array.getElem?_eq_getElem hlt] at h
    exact h
  have hpos : 0 < listed.count false := Array.count_pos_iff.2 (by rw [← hf]; exact Array.getElem_mem hlt)
  rw [Array.setIfInBounds_def, dif_pos hlt, Array.count_set]
  simp [hf]
  omega

theorem plan_any (hgood : Good P ρ w0 n rec) (pf : PF ops) {k : T AV → Heap → Ob} (hQ : ∀ a' w', OpsE ρ w0 j0 H0 N k a' w' → Q Exit.normal a' w') :
    ∀ (fuel : Nat) (listed : Array Bool) (s : Nat) (envS env : T AV) (j : J) (H : Heap) (a : Act) (w : World) (nm : Nat → Option Nat), listed.size = ops.size → Closed ops listed → listed.count false ≤ fuel →
      (∀ u h, (hsOf ops)[u]? = some h → (listed.getD h false = true ↔ u < s)) → CI P ρ w0 ops N env0 H0 j0 (DD ops s ops.size) (fun i => listed.getD i false = true) envS env j H w nm → ER ρ j N envS a →
      Ob.den ρ (planRun P rec ops N k (tailOf ops s ((hpOf ops).drop s)) env H) → wpAny P .any ops Q fuel listed a w := by
  have fin : ∀ (listed : Array Bool) (s : Nat) (envS env : T AV) (j : J) (H : Heap) (a : Act) (w : World) (nm : Nat → Option Nat), listed.size = ops.size → Closed ops listed →
      (∀ u h, (hsOf ops)[u]? = some h → (listed.getD h false = true ↔ u < s)) → CI P ρ w0 ops N env0 H0 j0 (DD ops s ops.size) (fun i => listed.getD i false = true) envS env j H w nm → ER ρ j N envS a →
      Ob.den ρ (planRun P rec ops N k (tailOf ops s ((hpOf ops).drop s)) env H) → Region.ready .any ops listed = [] → Q .normal a w := by
    intro listed s envS env j H a w nm hsz hcl hh ci he hden hr
    have hall := all_listed pf.edges hsz hr
    have hdrop : (hpOf ops).drop s = [] := by
      rw [List.drop_eq_nil_iff, hpOf_length]
      apply Classical.byContradiction
      intro hn
      have hx : (hsOf ops)[s]? = some (hsOf ops)[s] := List.getElem?_eq_getElem (by omega)
      obtain ⟨o, ho, _⟩ := hsOf_mem.1 ⟨s, hx⟩
      have := (hh s _ hx).1 (hall _ (Array.getElem?_eq_some_iff.1 ho).1)
      omega
    rw [hdrop] at hden
    refine hQ a w ⟨env, H, j, ⟨he.size, he.le, fun t ht => ?_, ?_⟩, ci.inv, ci.st, hden⟩
    all_goals
      have heq : ∀ t, envS.get t = env.get t := fun t => by
        by_cases hw : ∃ (q : Nat) (oq : Oper), ops[q]? = some oq ∧ oq.dst = some t
        · obtain ⟨q, oq, h1, h2⟩ := hw
          exact ci.s1 t q oq (hall q (Array.getElem?_eq_some_iff.1 h1).1) h1 h2
        · rw [ci.s0 t fun q oq _ h1 h2 => hw ⟨q, oq, h1, h2⟩, ci.e0 t fun q oq _ h1 h2 => hw ⟨q, oq, h1, h2⟩]
    · have := he.get t ht
      unfold envGet at this ⊢
      rw [heq t] at this
      exact this
    · have := he.dfr
      unfold envGet at this ⊢
      rw [heq dslot] at this
      exact this
  intro fuel
  induction fuel with
  | zero =>
    intro listed s envS env j H a w nm hsz hcl hc hh ci he hden
    have hr : Region.ready .any ops listed = [] := by
      rw [List.eq_nil_iff_forall_not_mem]
      intro i hi
      have := count_set (mem_ready.1 hi).1
      omega
    exact ⟨hr, fin listed s envS env j H a w nm hsz hcl hh ci he hden hr⟩
  | succ fuel ih =>
    intro listed s envS env j H a w nm hsz hcl hc hh ci he hden
    refine ⟨fin listed s envS env j H a w nm hsz hcl hh ci he hden, fun i hi => ?_⟩
    obtain ⟨hun, o, ho, hedges⟩ := mem_ready.1 hi
    have hlt := (Array.getElem?_eq_some_iff.1 ho).1
    have hun' : ¬ listed.getD i false = true := by
      rw [Array.getD_eq_getD_getElem?, Array.getElem?_eq_getElem (by omega)] at hun ⊢
      simp only [Option.getD_some] at hun ⊢
      rw [hun]; simp
    have hmask : ∀ x, (mkOf ops i).testBit x = true → listed.getD x false = true := fun x hx => mask_listed hcl i o ho hedges x hx
    have hlc : ∀ q x, listed.getD q false = true → (mkOf ops q).testBit x = true → listed.getD x false = true := fun q x hq hx => by
      cases hoq : ops[q]? with
      | none => rw [mkOf_none hoq] at hx; cases hx
      | some oq => exact mask_listed hcl q oq hoq (fun e h1 h2 => hcl q oq hoq hq e h1 h2) x hx
    have hnew : (fun x => listed.getD x false = true ∨ x = i) = fun x => (listed.setIfInBounds i true).getD x false = true := funext fun x => propext (by
      by_cases hx : x = i
      · subst hx
        constructor
        · intro _; rw [Array.getD_eq_getD_getElem?, Array.getElem?_setIfInBounds_self, if_pos (by omega)]; rfl
        · intro _; exact .inr rfl
      · rw [getD_set_ne false (Ne.symm hx)]
        exact ⟨fun h => h.resolve_right hx, .inl⟩)
    have hsz' : (listed.setIfInBounds i true).size = ops.size := by simp [hsz]
    have hcl' := closed_set hcl hi
    have hc' : (listed.setIfInBounds i true).count false ≤ fuel := by have := count_set hun; omega
    cases hv : isHeavy o with
    | false =>
      have hD : DD ops s ops.size i := by
        refine ⟨o, ho, .inl ⟨hv, ?_⟩⟩
        rcases st_last (ops := ops) i with h0 | ⟨u, x, h1, h2, h3⟩
        · omega
        · have := (hh u x h1).1 (hmask x h2)
          omega
      refine ci.late pf he ho hD hun' hmask hlc fun envS' j' a' w' ci' he' => ?_
      rw [hnew] at ci'
      refine ih _ s envS' env j' H a' w' nm hsz' hcl' hc' (fun u h hu => ?_) ci' he' hden
      have hne : i ≠ h := fun e => by
        subst e
        obtain ⟨o', h1, h2⟩ := hsOf_mem.1 ⟨u, hu⟩
        rw [ho] at h1; cases h1
        rw [hv] at h2; cases h2
      rw [getD_set_ne false hne]
      exact hh u h hu
    | true =>
      obtain ⟨u, hu⟩ := hsOf_mem.2 ⟨o, ho, hv⟩
      have hus : u = s := by
        have h1 : ¬ u < s := fun h => hun' ((hh u i hu).2 h)
        apply Classical.byContradiction
        intro hne
        obtain ⟨v, rfl⟩ : ∃ v, u = v + 1 := ⟨u - 1, by omega⟩
        have hvlt : v < (hsOf ops).length := by have := (List.getElem?_eq_some_iff.1 hu).1; omega
        have hx : (hsOf ops)[v]? = some (hsOf ops)[v] := List.getElem?_eq_getElem hvlt
        have := (hh v _ hx).1 (hmask _ (pf.chain v _ i hx hu))
        omega
      subst hus
      have hulen : u < (hpOf ops).length := by rw [hpOf_length]; exact (List.getElem?_eq_some_iff.1 hu).1
      have hp : (hpOf ops)[u]? = some (hpOf ops)[u] := List.getElem?_eq_getElem hulen
      obtain ⟨p1, p2, p3, p4⟩ := hpOf_at hp
      have hpi : (hpOf ops)[u].i = i := by rw [hu] at p1; exact (Option.some.inj p1).symm
      have hpo : (hpOf ops)[u].o = o := by rw [hpi, ho] at p2; exact (Option.some.inj p2).symm
      have hpm : (hpOf ops)[u].m = mkOf ops i := by rw [p3, hpi]
      have hdrop : (hpOf ops).drop u = (hpOf ops)[u] :: (hpOf ops).drop (u + 1) := List.drop_eq_getElem_cons hulen
      rw [hdrop] at hden
      have hden : Ob.den ρ (planRun P rec ops N k (.run (hpOf ops)[u].o :: .chk (rereads u (hpOf ops)[u].m (allOf ops)) :: planFrom (allOf ops) (u + 1) ((hpOf ops).drop (u + 1))) env H) := hden
      rw [hpo, hpm] at hden
      have hD : ¬ DD ops u ops.size i := by
        rintro ⟨o', h1, h2⟩
        rw [ho] at h1; cases h1
        rcases h2 with ⟨h2, _⟩ | ⟨_, v, h3, h4⟩
        · rw [hv] at h2; cases h2
        · have := hsOf_inj hu h4; omega
      refine ci.heavy hgood pf he ho hv hD (fun x y hx hy => DD_mask pf.edges hx hy) hmask hu (fun x ox hx hox => ?_) hden fun envS' env' j' H' a' w' ci' he' hden' => ?_
      · obtain ⟨o', h1, h2⟩ := hx
        rcases h2 with ⟨_, h2⟩ | ⟨_, v, h2, h3⟩
        · omega
        · have := st_heavy_le pf.edges h3
          omega
      · rw [hnew] at ci'
        rw [planFrom_eq] at hden'
        obtain ⟨env2, H2, nm2, ci2, hden2⟩ := stage_run pf ops.toList (masks ops.toList) 0 env' H' nm (by simp) (by simp) (ci'.congr (DD_stage hu ho hv)) hden'
        refine ih _ (u + 1) envS' env2 j' H2 a' w' nm2 hsz' hcl' hc' (fun v x hx => ?_) ci2 he' hden2
        by_cases hxi : x = i
        · subst hxi
          have := hsOf_inj hu hx
          subst this
          constructor
          · intro _; omega
          · intro _; rw [Array.getD_eq_getD_getElem?, Array.getElem?_setIfInBounds_self, if_pos (by omega)]; rfl
        · rw [getD_set_ne false (Ne.symm hxi), hh v x hx]
          have : v ≠ u := fun e => by subst e; rw [hu] at hx; exact hxi (Option.some.inj hx).symm
          omega

theorem planOk (hmo : P.follows .mixedOrders = true) (hgood : Good P ρ w0 n rec) : PlanOk P ρ w0 rec := by
  intro id ops N env H k j a w h hi he
  unfold sRegion at h
  simp only at h
  split at h
  case h_2 => exact h.elim
  rename_i l hl
  obtain ⟨pf, rfl⟩ := planOf_facts hl
  rw [planFrom_eq] at h
  refine wp_region_any hmo ?_
  have hfalse : ∀ i, ((Array.replicate ops.size false).getD i false = true) ↔ False := fun i => by
    rw [Array.getD_eq_getD_getElem?, Array.getElem?_replicate]
    split <;> simp
  have ci0 : CI P ρ w0 ops N env H j (DD ops 0 0) (fun i => (Array.replicate ops.size false).getD i false = true) env env j H w.drew (fun _ => none) := by
    refine ⟨hi.drew, St.refl j H, fun i h => ((hfalse i).1 h).elim, fun _ _ => rfl, fun _ _ => rfl, fun t i o h => ((hfalse i).1 h).elim, fun i o hD => ?_, fun i nx h => (by cases h), fun i i' nx h => (by cases h)⟩
    obtain ⟨o', _, h2⟩ := hD
    rcases h2 with ⟨_, h2⟩ | ⟨_, u, h2, _⟩ <;> omega
  obtain ⟨env2, H2, nm2, ci2, hden2⟩ := stage_run pf ops.toList (masks ops.toList) 0 env H (fun _ => none) (by simp) (by simp) ci0 h
  refine plan_any (k := k .normal) (j0 := j) (H0 := H) hgood pf (fun a' w' hh => ?_) ops.size _ 0 env env2 j H2 a w.drew nm2 (by simp) ?_ ?_ (fun u h hu => ?_) ci2 he (by simpa using hden2)
  · obtain ⟨env', H', j', h1, h2, h3, h4⟩ := hh
    exact ⟨.normal, env', H', j', rfl, h1, h2, h3, h4⟩
  · intro i o ho hl
    exact ((hfalse i).1 hl).elim
  · exact Nat.le_trans (Array.count_le_size) (by simp)
  · constructor
    · intro h; exact ((hfalse _).1 h).elim
    · intro h; omega

end
end Go.Dw
