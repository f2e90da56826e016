/-
  DwPlan: regions that draw: whatever order the tape says, the run is the plan's.
-/
import Derived.Test.YtfpklobgecgnpaaGreatDwCall
import Derived.Orders
namespace Go.Dw
set_option linter.unusedSimpArgs false
set_option linter.unusedVariables false

section
variable {P : Program} {ρ : Val} {w0 : World} {j : J} {H : Heap} {w : World} {N : Nat} {env env' : T AV} {a : Act} {o : Oper}

/-! ### What an operation yields hangs on its operands alone -/
theorem opds_congr : ∀ {l : List Operand}, (∀ x ∈ l, opd env x = opd env' x) → opds env l = opds env' l
  | [], _ => rfl
  | x :: l, h => by
    unfold opds
    rw [h x (List.mem_cons_self ..), opds_congr fun y hy => h y (List.mem_cons_of_mem _ hy)]
theorem natA_congr {x : Operand} (h : opd env x = opd env' x) : natA env x = natA env' x := by unfold natA; rw [h]
theorem natO_congr {x : Option Operand} {d : Nat} (h : ∀ y, x = some y → opd env y = opd env' y) : natO env x d = natO env' x d := by
  cases x with
  | none => rfl
  | some y => exact natA_congr (h y rfl)

theorem partsOf_congr : ∀ {l : List (Nat × Operand)}, (∀ p ∈ l, opd env p.2 = opd env' p.2) → partsOf env l = partsOf env' l
  | [], _ => rfl
  | (i, x) :: l, h => by
    unfold partsOf
    rw [h (i, x) (List.mem_cons_self ..), partsOf_congr fun y hy => h y (List.mem_cons_of_mem _ hy)]

theorem lCall_congr {c : Call} (h : ∀ x ∈ c.operands, opd env x = opd env' x) : lCall P c env H = lCall P c env' H := by
  have ha : ∀ x ∈ c.args.toList, opd env x = opd env' x := fun x hx => h x (by
    have : x ∈ c.args := by simpa using hx
    unfold Call.operands
    split <;> simp [this])
  unfold lCall
  cases hc : c.callee <;> first | rfl | skip
  rename_i b
  cases b <;> first | rfl | skip
  all_goals simp only [lLen, lCap, lMin, lMax]
  all_goals (split <;> first | rfl | skip)
  all_goals (rename_i hx; first | rw [ha _ (by rw [hx]; exact List.mem_cons_self ..), ha _ (by rw [hx]; exact List.mem_cons_of_mem _ (List.mem_cons_self ..))] | rw [ha _ (by rw [hx]; exact List.mem_cons_self ..)])

theorem bounds_congr {len cap : Nat} {lo hi mx : Option Operand} (h1 : ∀ y, lo = some y → opd env y = opd env' y) (h2 : ∀ y, hi = some y → opd env y = opd env' y) (h3 : ∀ y, mx = some y → opd env y = opd env' y) :
    bounds env len cap lo hi mx = bounds env' len cap lo hi mx := by
  have e1 : natO env lo 0 = natO env' lo 0 := natO_congr h1
  unfold bounds
  cases mx <;> cases hi <;> simp only [e1]
  all_goals first
    | rfl
    | rw [natA_congr (h2 _ rfl), natA_congr (h3 _ rfl)]
    | rw [natA_congr (h3 _ rfl)]
    | rw [natO_congr h2]

theorem sliceA_congr {t : TypeId} {v : AV} {lo hi mx : Option Operand} (h1 : ∀ y, lo = some y → opd env y = opd env' y) (h2 : ∀ y, hi = some y → opd env y = opd env' y) (h3 : ∀ y, mx = some y → opd env y = opd env' y) :
    sliceA P env t v lo hi mx = sliceA P env' t v lo hi mx := by
  have hb : ∀ len cap, bounds env len cap lo hi mx = bounds env' len cap lo hi mx := fun _ _ => bounds_congr h1 h2 h3
  have hn : ∀ len cap, bounds env len cap lo hi none = bounds env' len cap lo hi none := fun _ _ => bounds_congr h1 h2 (fun _ e => by cases e)
  have hs : ∀ s b off len cap, sliceSl env s b off len cap lo hi mx = sliceSl env' s b off len cap lo hi mx := by
    intro s b off len cap
    unfold sliceSl
    have hS : ∀ c, boundsS env c lo hi = boundsS env' c lo hi := fun c => by
      unfold boundsS
      rw [natO_congr h1]
      cases natO env' lo 0 <;> cases hi <;> try rfl
      rename_i y
      simp only
      rw [h2 y rfl]
    cases cap <;> simp only [hb, hn, hS]
  unfold sliceA
  cases v <;> simp only [hb, hn, hs]

theorem light_congr {op : Op} (h : ∀ x ∈ op.operands, opd env x = opd env' x) : light P op env H = light P op env' H := by
  cases op <;> simp only [light] <;> first | rfl | skip
  all_goals simp only [Op.operands] at h
  case move x => exact h x (by simp)
  case assign x => exact h x (by simp)
  case pick c x y => unfold lPick; rw [h c (by simp), h x (by simp), h y (by simp)]
  case load t x => unfold lLoad; rw [h x (by simp)]
  case extract x i => unfold lExtract; rw [h x (by simp)]
  case nilCheck x => unfold lNilCheck; rw [h x (by simp)]
  case fieldAddr t x f => unfold lFieldAddr; rw [h x (by simp)]
  case binOp op t x y t' => unfold lBinOp; rw [h x (by simp), h y (by simp)]
  case unOp op t x => unfold lUnOp; rw [h x (by simp)]
  case convert s d x => unfold lConvert; rw [h x (by simp)]
  case indexAddr t x i => unfold lIndexAddr; rw [h x (by simp), natA_congr (h i (by simp))]
  case index t x i => unfold lIndex; rw [h x (by simp), natA_congr (h i (by simp))]
  case field t x f => unfold lField; rw [h x (by simp)]
  case sliceToArrayPointer t x => unfold lArrPtr; rw [h x (by simp)]
  case makeInterface t x => unfold lMakeIface; rw [h x (by simp)]
  case typeAssert x t t' ok => unfold lTypeAssert; rw [h x (by simp)]
  case lookup t x i ok => unfold lLookup; rw [h x (by simp), h i (by simp)]
  case entry x => unfold lEntry; rw [h x (by simp)]
  case build t parts => unfold lBuild buildA; rw [partsOf_congr fun p hp => h p.2 (by simp; exact ⟨p.1, by simpa using hp⟩)]
  case makeFunc fn first cap =>
    unfold lMakeFunc
    rw [opds_congr (l := first.toList) fun x hx => h x (by simp; exact .inl (by simpa using hx)), opds_congr (l := cap.toList) fun x hx => h x (by simp; exact .inr (by simpa using hx))]
  case call c => exact lCall_congr h
  case slice t x lo hi mx =>
    unfold lSlice
    rw [h x (by simp)]
    have h1 : ∀ y, lo = some y → opd env y = opd env' y := fun y e => h y (by subst e; simp)
    have h2 : ∀ y, hi = some y → opd env y = opd env' y := fun y e => h y (by subst e; simp)
    have h3 : ∀ y, mx = some y → opd env y = opd env' y := fun y e => h y (by subst e; simp)
    split
    · exact sliceA_congr h1 h2 h3
    · rfl


theorem allocA_congr {op : Op} {nx : Nat} (h : ∀ x ∈ op.operands, opd env x = opd env' x) : allocA P op env nx = allocA P op env' nx := by
  cases op <;> simp only [allocA] <;> first | rfl | skip
  all_goals simp only [Op.operands] at h
  case box t x => unfold aBox; rw [h x (by simp)]
  case buildSlice t len parts => unfold aBuildSlice; rw [partsOf_congr fun p hp => h p.2 (by simp; exact ⟨p.1, by simpa using hp⟩)]
  case makeMap t r =>
    unfold aMakeMap
    cases r with
    | none => rfl
    | some r => simp only; rw [natA_congr (h r (by simp))]
  case makeSlice t l c => unfold aMakeSlice; rw [natA_congr (h l (by simp)), natA_congr (h c (by simp))]

theorem heavy_congr {rec : Task → Ob} {op : Op} {k : K} (h : ∀ x ∈ op.operands, opd env x = opd env' x) : heavy P rec op env H k = heavy P rec op env' H k := by
  cases op <;> simp only [heavy] <;> first | rfl | skip
  all_goals simp only [Op.operands] at h
  case insert t m x v => unfold dMapSet; rw [h m (by simp), h x (by simp), h v (by simp)]
  case store t x v => unfold dStore; rw [h x (by simp), h v (by simp)]
  case mapUpdate t m x v => unfold dMapSet; rw [h m (by simp), h x (by simp), h v (by simp)]
  case mapEntry t m x => unfold dMapEntry; rw [h m (by simp), h x (by simp)]
  case entryStore t m s v => unfold dEntryStore; rw [h m (by simp), h s (by simp), h v (by simp)]
  case range t x => unfold dRange; rw [h x (by simp)]
  case next x str => unfold dNext; rw [h x (by simp)]
  case call c =>
    have ha : opds env c.args.toList = opds env' c.args.toList := opds_congr fun x hx => h x (by
      have : x ∈ c.args := by simpa using hx
      unfold Call.operands
      split <;> simp [this])
    unfold dCall
    cases hc : c.callee with
    | value f => simp only; unfold dCallV; rw [h f (by simp [Call.operands, hc]), ha]
    | invoke r name => simp only; unfold dCallI; rw [h r (by simp [Call.operands, hc]), ha]
    | builtin b => simp only; unfold dBuiltin; cases b <;> first | rfl | (simp only [dAppend, dCopy, dDelete, dClear, ha])


/-! ### A heap with more in it says the same -/
structure Ext (H H' : Heap) : Prop where
  m : ∀ n o, H.m.get n = some o → H'.m.get n = some o
  gw : H'.gw = H.gw
theorem Ext.refl (H : Heap) : Ext H H := ⟨fun _ _ h => h, rfl⟩
theorem Ext.trans {H H' H'' : Heap} (h : Ext H H') (h' : Ext H' H'') : Ext H H'' := ⟨fun n o e => h'.m n o (h.m n o e), by rw [h'.gw, h.gw]⟩
theorem Ext.row {H' : Heap} (h : Ext H H') {n : Nat} {v : Vec} (hr : H.row n = some v) : H'.row n = some v := by
  unfold Heap.row at hr ⊢
  split at hr
  case h_2 => cases hr
  rename_i hm
  rw [h.m _ _ hm, h.gw]
  exact hr
theorem Ext.mapAt {H' : Heap} (h : Ext H H') {n : Nat} {v : List ME × Nat} (hr : H.mapAt n = some v) : H'.mapAt n = some v := by
  unfold Heap.mapAt at hr ⊢
  split at hr
  case h_2 => cases hr
  rename_i hm
  rw [h.m _ _ hm]
  exact hr
theorem Ext.mapuAt {H' : Heap} (h : Ext H H') {n : Nat} {v : List ME} (hr : H.mapuAt n = some v) : H'.mapuAt n = some v := by
  unfold Heap.mapuAt at hr ⊢
  split at hr
  case h_2 => cases hr
  rename_i hm
  rw [h.m _ _ hm]
  exact hr
theorem Ext.cellsA {H' : Heap} (h : Ext H H') {sz n : Nat} {x : AV} {l : List AV} (hr : Dw.cellsA H sz n x = some l) : Dw.cellsA H' sz n x = some l := by
  cases x <;> simp only [Dw.cellsA] at hr ⊢ <;> try exact hr
  split at hr
  · cases hr
  · split at hr
    · cases hr
    · rename_i v hv
      rw [h.row hv]
      exact hr
theorem Ext.entriesA {H' : Heap} (h : Ext H H') {m : AV} {l : List ME} (hr : Dw.entriesA H m = some l) : Dw.entriesA H' m = some l := by
  cases m <;> simp only [Dw.entriesA] at hr ⊢ <;> try exact hr
  split at hr
  · rename_i es c hm
    rw [h.mapAt hm]
    exact hr
  · cases hr


theorem eqFields_mono {eq eq' : TypeId → AV → AV → Option SB} (h : ∀ t a b c, eq t a b = some c → eq' t a b = some c) : ∀ (l : List Field) (xs ys : List AV) (r : SB), eqFields P eq l xs ys = some r → eqFields P eq' l xs ys = some r
  | [], _, _, _, hr => hr
  | fd :: l, xs, ys, r, hr => by
    unfold eqFields at hr ⊢
    by_cases hn : fd.name = "_"
    · rw [if_pos hn] at hr ⊢
      exact eqFields_mono h l xs ys r hr
    · rw [if_neg hn] at hr ⊢
      cases ha : partA P fd.type xs fd.offset with
      | none => rw [ha] at hr; exact hr
      | some a =>
        cases hb : partA P fd.type ys fd.offset with
        | none => rw [ha, hb] at hr; exact hr
        | some b =>
          rw [ha, hb] at hr
          simp only at hr ⊢
          cases hc : eq fd.type a b with
          | none => rw [hc] at hr; cases hr
          | some c =>
            rw [hc] at hr
            rw [h _ _ _ _ hc]
            cases hd : eqFields P eq l xs ys with
            | none => rw [hd] at hr; cases hr
            | some d => rw [hd] at hr; rw [eqFields_mono h l xs ys d hd]; exact hr
theorem eqElems_mono {eq eq' : AV → AV → Option SB} (h : ∀ a b c, eq a b = some c → eq' a b = some c) {e : TypeId} {s : Nat} : ∀ (n i : Nat) (xs ys : List AV) (r : SB), eqElems P eq e s n i xs ys = some r → eqElems P eq' e s n i xs ys = some r
  | 0, _, _, _, _, hr => hr
  | n + 1, i, xs, ys, r, hr => by
    unfold eqElems at hr ⊢
    cases ha : partA P e xs (i * s) with
    | none => rw [ha] at hr; exact hr
    | some a =>
      cases hb : partA P e ys (i * s) with
      | none => rw [ha, hb] at hr; exact hr
      | some b =>
        rw [ha, hb] at hr
        simp only at hr ⊢
        cases hc : eq a b with
        | none => rw [hc] at hr; cases hr
        | some c =>
          rw [hc] at hr
          rw [h _ _ _ hc]
          cases hd : eqElems P eq e s n (i + 1) xs ys with
          | none => rw [hd] at hr; cases hr
          | some d => rw [hd] at hr; rw [eqElems_mono h n (i + 1) xs ys d hd]; exact hr

theorem Ext.apartA {H' : Heap} (h : Ext H H') {n m : Nat} (hr : Dw.apartA H n m = true) : Dw.apartA H' n m = true := by
  unfold Dw.apartA at hr ⊢
  split at hr
  case h_2 => cases hr
  rename_i h1 h2
  rw [h.m _ _ h1, h.m _ _ h2]
  simp only at hr ⊢
  split at hr
  · cases hr
  rename_i hg
  try rw [hg]
  split at hr
  case h_2 => cases hr
  rename_i h3 h4
  simp only [h.row h3, h.row h4]

theorem Ext.eqA {H' : Heap} (h : Ext H H') : ∀ (f : Nat) (t : TypeId) (x y : AV) (r : SB), Dw.eqA P H f t x y = some r → Dw.eqA P H' f t x y = some r
  | 0, _, _, _, _, hr => hr
  | f + 1, t, x, y, r, hr => by
    unfold Dw.eqA at hr ⊢
    cases hd : P.underlying t with
    | none => rw [hd] at hr; exact hr
    | some d =>
      rw [hd] at hr
      cases d <;> simp only at hr ⊢ <;> try exact hr
      case pointer e =>
        cases x <;> cases y <;> simp only at hr ⊢ <;> try exact hr
        split at hr
        case h_2 => cases hr
        rename_i hs
        try rw [hs]
        try simp only
        split at hr
        · rename_i hn; first | exact hr | (rw [hn]; exact hr)
        · rename_i hn
          try rw [hn]
          split at hr
          case h_2 => cases hr
          rename_i hap
          simp only [h.apartA hap]
          exact hr
      case struct fs =>
        cases x <;> cases y <;> simp only at hr ⊢ <;> try exact hr
        split at hr
        · cases hr
        rename_i hst
        try rw [hst]
        exact eqFields_mono (fun t a b c => Ext.eqA h f t a b c) _ _ _ _ hr
      case array len e =>
        cases x <;> cases y <;> simp only at hr ⊢ <;> try exact hr
        split at hr
        case h_2 => cases hr
        rename_i s hs
        try rw [hs]
        exact eqElems_mono (fun a b c => Ext.eqA h f e a b c) _ _ _ _ _ hr


theorem Ext.binEq {H' : Heap} (h : Ext H H') {op : BinOp} {t : TypeId} {x y v : AV} (hr : Dw.binEq P H op t x y = some v) : Dw.binEq P H' op t x y = some v := by
  cases op <;> simp only [Dw.binEq] at hr ⊢ <;> try exact hr
  all_goals
    split at hr
    case h_2 => cases hr
    rename_i b hb
    rw [h.eqA 8 t x y b hb]
    exact hr
theorem Ext.binA {H' : Heap} (h : Ext H H') {c : Bool} {op : BinOp} {t : TypeId} {x y v : AV} (hr : Dw.binA P H c op t x y = some v) : Dw.binA P H' c op t x y = some v := by
  unfold Dw.binA at hr ⊢
  cases x <;> first
    | exact hr
    | exact h.binEq hr
    | (simp only at hr ⊢
       split at hr
       · cases hr
       · exact h.binEq hr)
    | (simp only at hr ⊢
       split at hr
       · exact h.binEq hr
       · cases hr)
theorem Ext.convStr {H' : Heap} (h : Ext H H') {e : TypeId} {x v : AV} (hr : Dw.convStr P H e x = some v) : Dw.convStr P H' e x = some v := by
  unfold Dw.convStr at hr ⊢
  cases hd : P.underlying e with
  | none => rw [hd] at hr; cases hr
  | some d =>
    rw [hd] at hr
    cases d <;> (try simp only at hr ⊢) <;> try (cases hr; done)
    rename_i kk
    cases kk <;> (try simp only at hr ⊢) <;> try (cases hr; done)
    cases x <;> (try simp only at hr ⊢) <;> first
      | exact hr
      | (split at hr
         · cases hr
         rename_i n hn
         try rw [hn]
         split at hr
         · cases hr
         rename_i l hl
         simp only [h.cellsA hl]
         exact hr)
theorem Ext.convA {H' : Heap} (h : Ext H H') {s d : TypeId} {x v : AV} (hr : Dw.convA P H s d x = some v) : Dw.convA P H' s d x = some v := by
  unfold Dw.convA at hr ⊢
  cases hs : P.underlying s with
  | none => rw [hs] at hr; cases hr
  | some ds =>
    rw [hs] at hr
    cases hd : P.underlying d with
    | none => rw [hd] at hr; cases hr
    | some dd =>
      rw [hd] at hr
      cases dd <;> simp only at hr ⊢ <;> try exact hr
      cases ds <;> simp only at hr ⊢ <;> try exact hr
      exact h.convStr hr
theorem Ext.hits {H' : Heap} (h : Ext H H') {kt : TypeId} {k : AV} : ∀ {es : List ME} {l : List AV}, Dw.hits P H kt k es = some l → Dw.hits P H' kt k es = some l
  | [], _, hr => hr
  | e :: es, l, hr => by
    unfold Dw.hits at hr ⊢
    split at hr
    · rename_i h1 h2
      rw [h.eqA _ _ _ _ _ h1, Ext.hits h h2]; exact hr
    · rename_i h1 h2
      rw [h.eqA _ _ _ _ _ h1, Ext.hits h h2]; exact hr
    · cases hr
theorem Ext.lookupU {H' : Heap} (h : Ext H H') {t : TypeId} {m kk v : AV} {ok : Bool} (hr : Dw.lookupU P H t m kk ok = some v) : Dw.lookupU P H' t m kk ok = some v := by
  unfold Dw.lookupU at hr ⊢
  split at hr
  case h_2 => cases hr
  rename_i kt et n cs hu
  split at hr
  case h_2 => cases hr
  rename_i len e es h1 h2
  rw [h1, h.mapuAt h2]
  split at hr
  case h_2 => cases hr
  rename_i s hs
  simp only [hs]
  split at hr
  · rename_i h3 h4; rw [h3, h.hits h4]; exact hr
  · rename_i h3 h4; rw [h3, h.hits h4]; exact hr
  · cases hr
theorem Ext.lookupA {H' : Heap} (h : Ext H H') {t : TypeId} {m kk v : AV} {ok : Bool} (hr : Dw.lookupA P H t m kk ok = some v) : Dw.lookupA P H' t m kk ok = some v := by
  unfold Dw.lookupA at hr ⊢
  split at hr
  · exact h.lookupU hr
  rename_i kd et hm
  try rw [hm]
  split at hr
  · cases hr
  rename_i es he
  simp only [h.entriesA he]
  exact hr
theorem Ext.lenOfA {H' : Heap} (h : Ext H H') {d : Option TypeDesc} {x v : AV} (hr : Dw.lenOfA d H x = some v) : Dw.lenOfA d H' x = some v := by
  unfold Dw.lenOfA at hr ⊢
  cases d with
  | none => exact hr
  | some d =>
    cases d <;> simp only at hr ⊢ <;> try exact hr
    cases x <;> simp only at hr ⊢ <;> try exact hr
    split at hr
    · rename_i es c hm
      simp only [h.mapAt hm]
      exact hr
    · cases hr

theorem light_mono {op : Op} {H' : Heap} {v : AV} (h : Ext H H') (hr : light P op env H = some v) : light P op env H' = some v := by
  cases op <;> simp only [light] at hr ⊢ <;> try exact hr
  case load t x =>
    unfold lLoad at hr ⊢
    split at hr
    case h_2 => cases hr
    rename_i n off hx
    try rw [hx]
    split at hr
    case h_2 => cases hr
    rename_i vv hv
    simp only [h.row hv]
    exact hr
  case binOp op t x y t' =>
    unfold lBinOp at hr ⊢
    split at hr
    case h_2 => cases hr
    rename_i p q hp hq
    try rw [hp, hq]
    exact h.binA hr
  case convert s d x =>
    unfold lConvert at hr ⊢
    split at hr
    case h_2 => cases hr
    rename_i p hp
    try rw [hp]
    exact h.convA hr
  case lookup t x i ok =>
    unfold lLookup at hr ⊢
    split at hr
    case h_2 => cases hr
    rename_i p q hp hq
    try rw [hp, hq]
    exact h.lookupA hr
  case entry x =>
    unfold lEntry at hr ⊢
    split at hr
    case h_2 => cases hr
    rename_i n hx
    try rw [hx]
    split at hr
    case h_2 => cases hr
    rename_i hm
    simp only [h.m _ _ hm]
    split at hr
    case h_2 => cases hr
    rename_i hse
    try rw [hse]
    split at hr
    case h_2 => cases hr
    rename_i hma
    simp only [h.mapAt hma]
    exact hr
  case call c =>
    unfold lCall at hr ⊢
    cases hc : c.callee <;> rw [hc] at hr <;> try exact hr
    rename_i b
    cases b <;> try exact hr
    change lLen P _ _ env H = some v at hr
    change lLen P _ _ env H' = some v
    unfold lLen at hr ⊢
    split at hr
    case h_2 => cases hr
    rename_i h1 h2
    try rw [h1, h2]
    try simp only
    split at hr
    case h_2 => cases hr
    rename_i p hp
    try rw [hp]
    exact h.lenOfA hr


/-! ### What must have come before -/
theorem edgesMask_bit {ms : List Nat} : ∀ {l : List Edge} {x : Nat}, (edgesMask ms l).testBit x = true → ∃ e ∈ l, Region.binds .any e = true ∧ (x = e.on ∨ (ms.getD e.on 0).testBit x = true)
  | [], x, h => by simp [edgesMask] at h
  | e :: l, x, h => by
    unfold edgesMask at h
    split at h
    · rename_i hb
      rw [show Nat.lor (Nat.lor (2 ^ e.on) (ms.getD e.on 0)) (edgesMask ms l) = ((2 ^ e.on) ||| (ms.getD e.on 0)) ||| edgesMask ms l from rfl, Nat.testBit_or, Nat.testBit_or, Bool.or_eq_true, Bool.or_eq_true, Nat.testBit_two_pow, decide_eq_true_eq] at h
      rcases h with (h | h) | h
      · exact ⟨e, List.mem_cons_self .., hb, .inl h.symm⟩
      · exact ⟨e, List.mem_cons_self .., hb, .inr h⟩
      · obtain ⟨e', h1, h2, h3⟩ := edgesMask_bit h
        exact ⟨e', List.mem_cons_of_mem _ h1, h2, h3⟩
    · obtain ⟨e', h1, h2, h3⟩ := edgesMask_bit h
      exact ⟨e', List.mem_cons_of_mem _ h1, h2, h3⟩

theorem masksGo_pre : ∀ (l : List Oper) (ms : List Nat) (i : Nat), i < ms.length → (masksGo l ms)[i]? = ms[i]?
  | [], ms, i, _ => rfl
  | o :: l, ms, i, h => by
    unfold masksGo
    rw [masksGo_pre l _ i (by simp; omega), List.getElem?_append_left h]
/-- A mask is made of the edges, by the masks ahead of it. -/
theorem masksGo_bit : ∀ (l : List Oper) (ms : List Nat) (i x : Nat) (o : Oper), l[i]? = some o → ((masksGo l ms).getD (ms.length + i) 0).testBit x = true →
    ∃ e ∈ o.after.toList, Region.binds .any e = true ∧ (x = e.on ∨ (e.on < ms.length + i ∧ ((masksGo l ms).getD e.on 0).testBit x = true))
  | [], ms, i, x, o, h, _ => by simp at h
  | o' :: l, ms, 0, x, o, h, hx => by
    simp at h; subst h
    unfold masksGo at hx ⊢
    rw [List.getD_eq_getElem?_getD, masksGo_pre l _ _ (by simp), List.getElem?_append_right (by simp)] at hx
    simp at hx
    obtain ⟨e, h1, h2, h3⟩ := edgesMask_bit hx
    refine ⟨e, h1, h2, h3.imp id fun h3 => ?_⟩
    have hlt : e.on < ms.length := by
      apply Classical.byContradiction
      intro hh
      rw [List.getD_eq_getElem?_getD, List.getElem?_eq_none (by omega)] at h3
      simp at h3
    refine ⟨by omega, ?_⟩
    rw [List.getD_eq_getElem?_getD, masksGo_pre l _ _ (by simp; omega), List.getElem?_append_left hlt, ← List.getD_eq_getElem?_getD]
    exact h3
  | o' :: l, ms, i + 1, x, o, h, hx => by
    unfold masksGo at hx ⊢
    have := masksGo_bit l (ms ++ [edgesMask ms o'.after.toList]) i x o (by simpa using h) (by simpa [Nat.add_assoc, Nat.add_comm 1 i] using hx)
    simpa [Nat.add_assoc, Nat.add_comm 1 i] using this


def Closed (ops : Array Oper) (listed : Array Bool) : Prop :=
  ∀ (i : Nat) (o : Oper), ops[i]? = some o → listed.getD i false = true → ∀ e ∈ o.after, Region.binds .any e = true → listed.getD e.on false = true

theorem mask_listed {ops : Array Oper} {listed : Array Bool} (hc : Closed ops listed) : ∀ (i : Nat) (o : Oper), ops[i]? = some o → (∀ e ∈ o.after, Region.binds .any e = true → listed.getD e.on false = true) →
    ∀ x, ((masks ops.toList).getD i 0).testBit x = true → listed.getD x false = true := by
  intro i
  induction i using Nat.strongRecOn with
  | _ i ih =>
    intro o ho hl x hx
    obtain ⟨e, h1, h2, h3⟩ := masksGo_bit ops.toList [] i x o (by simpa using ho) (by simpa [masks] using hx)
    have he := hl e (by simpa using h1) h2
    rcases h3 with h3 | ⟨h3, h4⟩
    · rw [h3]; exact he
    · have hlt : e.on < i := by simpa using h3
      have hi : i < ops.size := (Array.getElem?_eq_some_iff.1 ho).1
      have ho' : ops[e.on]? = some ops[e.on] := Array.getElem?_eq_getElem (by omega)
      exact ih e.on hlt _ ho' (fun e' g1 g2 => hc e.on _ ho' he e' g1 g2) x h4

theorem closed_set {ops : Array Oper} {listed : Array Bool} (hc : Closed ops listed) {i : Nat} (hr : i ∈ Region.ready .any ops listed) : Closed ops (listed.setIfInBounds i true) := by
  obtain ⟨h1, o, h2, h3⟩ := mem_ready.1 hr
  intro i' o' ho' hl' e he hb
  by_cases hi : i = i'
  · subst hi
    rw [h2] at ho'; cases ho'
    exact getD_set_true (h3 e he hb)
  · rw [getD_set_ne false hi] at hl'
    exact getD_set_true (hc i' o' ho' hl' e he hb)


def EdgesLt (ops : Array Oper) : Prop := ∀ (i : Nat) (o : Oper), ops[i]? = some o → ∀ e ∈ o.after, Region.binds .any e = true → e.on < i

theorem all_listed {ops : Array Oper} {listed : Array Bool} (he : EdgesLt ops) (hsz : listed.size = ops.size) (hr : Region.ready .any ops listed = []) : ∀ i, i < ops.size → listed.getD i false = true := by
  intro i
  induction i using Nat.strongRecOn with
  | _ i ih =>
    intro hi
    cases hl : listed.getD i false with
    | true => rfl
    | false =>
      exfalso
      have hl' : listed.getD i true = false := by
        rw [Array.getD_eq_getD_getElem?, Array.getElem?_eq_getElem (by omega)] at hl ⊢
        exact hl
      have : i ∈ Region.ready .any ops listed := mem_ready.2 ⟨hl', ops[i], Array.getElem?_eq_getElem hi, fun e h1 h2 => by
        have hlt := he i _ (Array.getElem?_eq_getElem hi) e h1 h2
        exact ih e.on hlt (by omega)⟩
      rw [hr] at this
      cases this


/-! ### The facts of a plan -/
theorem mem_posOf {hs : List Nat} : ∀ {l : List Oper} {ms : List Nat} {n : Nat} {p : PO}, l.length = ms.length → (p ∈ posOf hs l ms n ↔ ∃ i, l[i]? = some p.o ∧ p.i = n + i ∧ ms[i]? = some p.m ∧ p.s = stageN p.m hs 0 0)
  | [], ms, n, p, _ => by simp [posOf]
  | o :: l, [], n, p, h => by simp at h
  | o :: l, m :: ms, n, p, h => by
    unfold posOf
    rw [List.mem_cons, mem_posOf (l := l) (by simpa using h)]
    constructor
    · rintro (rfl | ⟨i, h1, h2, h3, h4⟩)
      · exact ⟨0, rfl, rfl, rfl, rfl⟩
      · exact ⟨i + 1, by simpa using h1, by rw [h2]; omega, by simpa using h3, h4⟩
    · rintro ⟨i, h1, h2, h3, h4⟩
      cases i with
      | zero =>
        left
        obtain ⟨po, pi, pm, ps⟩ := p
        simp at h1 h2 h3 h4
        subst h1 h2 h3 h4
        rfl
      | succ i => exact .inr ⟨i, by simpa using h1, by rw [h2]; omega, by simpa using h3, h4⟩


theorem masksGo_length : ∀ (l : List Oper) (ms : List Nat), (masksGo l ms).length = ms.length + l.length
  | [], ms => rfl
  | o :: l, ms => by unfold masksGo; rw [masksGo_length l]; simp; omega
theorem masks_length (l : List Oper) : (masks l).length = l.length := by unfold masks; rw [masksGo_length]; simp

theorem stageN_ge {m : Nat} : ∀ (hs : List Nat) (t acc : Nat), acc ≤ t → acc ≤ stageN m hs t acc
  | [], t, acc, _ => Nat.le_refl _
  | h :: l, t, acc, ha => by
    unfold stageN
    split
    · exact Nat.le_trans (Nat.le_succ_of_le ha) (stageN_ge l _ _ (Nat.le_refl _))
    · exact stageN_ge l _ _ (Nat.le_succ_of_le ha)
/-- Whichever heavy one is in the mask lies ahead of the stage. -/
theorem stageN_mem {m : Nat} : ∀ (hs : List Nat) (t acc u h : Nat), acc ≤ t → hs[u]? = some h → m.testBit h = true → t + u + 1 ≤ stageN m hs t acc
  | [], t, acc, u, h, _, hh, _ => by simp at hh
  | x :: l, t, acc, 0, h, ha, hh, hm => by
    simp at hh; subst hh
    unfold stageN
    rw [hm]
    exact stageN_ge l _ _ (Nat.le_refl _)
  | x :: l, t, acc, u + 1, h, ha, hh, hm => by
    unfold stageN
    split
    · have := stageN_mem l (t + 1) (t + 1) u h (Nat.le_refl _) (by simpa using hh) hm
      show t + (u + 1) + 1 ≤ stageN m l (t + 1) (t + 1)
      omega
    · have := stageN_mem l (t + 1) acc u h (by omega) (by simpa using hh) hm
      show t + (u + 1) + 1 ≤ stageN m l (t + 1) acc
      omega
/-- The heavy one just ahead of the stage is in the mask. -/
theorem stageN_last {m : Nat} : ∀ (hs : List Nat) (t acc : Nat), acc ≤ t → stageN m hs t acc = acc ∨ ∃ u h, hs[u]? = some h ∧ m.testBit h = true ∧ stageN m hs t acc = t + u + 1
  | [], t, acc, _ => .inl rfl
  | x :: l, t, acc, ha => by
    unfold stageN
    split
    · rename_i hm
      rcases stageN_last (m := m) l (t + 1) (t + 1) (Nat.le_refl _) with h | ⟨u, h, h1, h2, h3⟩
      · exact .inr ⟨0, x, rfl, hm, h⟩
      · exact .inr ⟨u + 1, h, by simpa using h1, h2, by show stageN m l (t + 1) (t + 1) = _; omega⟩
    · rcases stageN_last (m := m) l (t + 1) acc (by omega) with h | ⟨u, h, h1, h2, h3⟩
      · exact .inl h
      · exact .inr ⟨u + 1, h, by simpa using h1, h2, by show stageN m l (t + 1) acc = _; omega⟩

end
end Go.Dw
