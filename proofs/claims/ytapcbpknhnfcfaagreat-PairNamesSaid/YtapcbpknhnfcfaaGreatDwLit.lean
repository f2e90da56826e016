/-
  DwLit: a region that is a map literal whose entries may come in any order: whatever the order, the map has these entries.
-/
import Derived.Test.YtapcbpknhnfcfaaGreatDwPlan2
namespace Go.Dw
set_option linter.unusedSimpArgs false
set_option linter.unusedVariables false

section
variable {P : Program} {ρ : Val} {w0 : World} {j : J} {H : Heap} {w : World} {N : Nat} {env : T AV} {a : Act} {o : Oper} {ops : Array Oper} {Q : Exit → Act → World → Prop}

/-! ### Heaps that have the same objects -/
theorem Inv.congrH {H' : Heap} (h : Inv ρ w0 j H w) (hm : ∀ n, H'.m.get n = H.m.get n) (hx : H'.nx = H.nx) (hg : H'.gw = H.gw) : Inv ρ w0 j H' w := by
  refine ⟨h.fr, fun n L e => by rw [hx]; exact h.dom n L e, h.blk, fun n o e => by rw [hm] at e; rw [hx]; exact h.used n o e, fun n L e => ?_, fun n m Ln Lm hne e1 e2 hb => ?_, fun n v e g t sh ow he => ?_, fun g x he => ?_, fun n L v e g c sh e1 e2 => ?_, h.fz, fun n L v e c sh e1 e2 => ?_⟩
  · obtain ⟨o, h1, h2⟩ := h.obj n L e
    exact ⟨o, by rw [hm]; exact h1, by rw [hg]; exact h2⟩
  · obtain ⟨vn, en, gn, cn, sn, on, vm, em, gm, cm, sm, om, h1, h2, h3⟩ := h.sep n m Ln Lm hne e1 e2 hb
    exact ⟨vn, en, gn, cn, sn, on, vm, em, gm, cm, sm, om, by rw [hm]; exact h1, by rw [hm]; exact h2, by rw [hg]; exact h3⟩
  · rw [hm] at he; rw [hx]; exact h.tim n v e g t sh ow he
  · rw [hg] at he; rw [hx]; exact h.gwt g x he
  · rw [hm] at e2; exact h.grp n L v e g c sh e1 e2
  · rw [hm] at e2; exact h.off0 n L v e c sh e1 e2

theorem get_alloc (H : Heap) (o : Obj) (n : Nat) : (H.alloc o).m.get n = if n = H.nx then some o else H.m.get n := by
  rw [Heap.alloc_eq]
  exact T.get_set _ _ _ _
theorem get_upd (H : Heap) (i : Nat) (o : Obj) (n : Nat) : (H.upd i o).m.get n = if n = i then some o else H.m.get n := by
  rw [Heap.upd_eq]
  exact T.get_set _ _ _ _

/-- The object behind the last allocation, another one that stands for the same block. -/
theorem Inv.realloc {o o' : Obj} (h : Inv ρ w0 j (H.alloc o) w) {L : Loc} (hj : j H.nx = some L) (ho : notCells o = true) (ho' : notCells o' = true) {ob : Go.Obj} (hob : notRow ob = true)
    (hR : ∀ w' : World, w'.heap[L.blk]? = some ob → ObjR ρ j w0 w' H.gw L o') : Inv ρ w0 j (H.alloc o') { w with heap := w.heap.setIfInBounds L.blk ob } := by
  have hget : (H.alloc o).m.get H.nx = some o := by rw [get_alloc, if_pos rfl]
  have hgw : (H.alloc o).gw = H.gw := by rw [Heap.alloc_eq]
  have := (h.setObj (o' := o') (ob := ob) hj hget ho ho' hob (fun w' e => by rw [hgw]; exact hR w' e)).1
  refine this.congrH (fun n => ?_) (by rw [Heap.upd_eq, Heap.alloc_eq, Heap.alloc_eq]) (by rw [Heap.upd_eq, Heap.alloc_eq, Heap.alloc_eq])
  rw [get_alloc, get_upd, get_alloc]
  by_cases hn : n = H.nx
  · rw [if_pos hn, if_pos hn]
  · rw [if_neg hn, if_neg hn, if_neg hn]

/-! ### The entries -/
theorem RK_snoc : ∀ {es : List ME} {xs : List MapEntry} {e : ME} {x : MapEntry}, RK ρ j es xs → R ρ j e.key x.key → R ρ j e.val x.val → RK ρ j (es ++ [e]) (xs ++ [x])
  | [], xs, e, x, h, h1, h2 => by have e : xs = [] := h; subst e; exact ⟨x, [], rfl, h1, h2, rfl⟩
  | a :: es, _, e, x, h, h1, h2 => by
    obtain ⟨y, xs, rfl, g1, g2, g4⟩ := h
    exact ⟨y, _, rfl, g1, g2, RK_snoc g4 h1 h2⟩

/-- A key that is not there yet is stored. -/
theorem insertu_run {es : List ME} (hi : Inv ρ w0 j (H.alloc (.mapu es)) w) {L : Loc} (hj : j H.nx = some L) {t kt et e : TypeId} {len s : Nat} {kd : IntKind} (hu : P.underlying t = some (.map kt et)) (hkt : P.underlying kt = some (.array len e)) (hke : P.underlying e = some (.int kd)) (hs : szOf P e = some s)
    {cs : List AV} {v : AV} {uk ux : Value} (hk : R ρ j (.agg cs) uk) (hx : R ρ j v ux) (hp : partsIn P e s cs len 0 = true) (hh : hits P (H.alloc (.mapu es)) kt (.agg cs) es = some []) :
    ∃ w', (Instr.mapUpdate t (.map (some L.blk)) uk ux).run P w = .ok () w' ∧ Inv ρ w0 j (H.alloc (.mapu (es ++ [⟨.agg cs, v, 0⟩]))) w' := by
  have hmu : (H.alloc (.mapu es)).mapuAt H.nx = some es := by unfold Heap.mapuAt; rw [get_alloc, if_pos rfl]
  obtain ⟨arr, clock, es', hblk, hperm, hrk⟩ := hi.mapuAt hj hmu
  obtain ⟨o, ho1, ho2⟩ := hi.obj _ L hj
  rw [get_alloc, if_pos rfl] at ho1; cases ho1
  obtain ⟨hbase, hoff, _⟩ := ho2
  have hk' := hk
  obtain ⟨us, rfl, hus⟩ := hk'
  obtain ⟨l', h1, h2⟩ := hits_perm hperm hh
  have e1 : l' = [] := List.perm_nil.1 h2
  subst e1
  have h3 : (Instr.findAsking kt (.agg us.toArray) arr.toList 0).run P w = .ok none w := findAsking_run (P := P) hi hk 0 hrk h1
  have hfk : (Instr.findKey kt (.agg us.toArray) arr.toList).run P w = .ok none w := by
    unfold Instr.findKey
    simp only [Sem.run_bind, run_underlying hkt, Result.andThen_ok]
    cases hxs : arr.toList with
    | nil => rfl
    | cons x xs =>
      have : Instr.findNow (.array len e) (.agg us.toArray) (x :: xs) 0 = none := by
        unfold Instr.findNow
        have : Instr.sameNow (.array len e) (.agg us.toArray) x.key = none := by unfold Instr.sameNow; rfl
        rw [this]
      rw [this]
      rw [hxs] at h3
      exact h3
  refine ⟨{ w with heap := w.heap.setIfInBounds L.blk (.map (arr.push { key := .agg us.toArray, val := ux, born := clock }) (clock + 1)) }, ?_, ?_⟩
  · unfold Instr.mapUpdate
    simp only [Sem.run_bind, run_underlying hu, Result.andThen_ok, run_getObj_map P hblk, run_checkKeyArr hkt hke hs (by simpa using hus) hp false, hfk]
    exact run_setObj_map P hblk rfl
  · refine hi.realloc hj rfl rfl rfl fun w' e => ⟨hbase, hoff, _, _, es' ++ [⟨.agg cs, v, 0⟩], e, hperm.append_right _, ?_⟩
    rw [Array.toList_push]
    exact RK_snoc hrk hk hx

/-- The same entries in another order. -/
theorem Inv.perm {es es' : List ME} (h : Inv ρ w0 j (H.alloc (.mapu es)) w) {L : Loc} (hj : j H.nx = some L) (hp : es.Perm es') : Inv ρ w0 j (H.alloc (.mapu es')) w := by
  obtain ⟨o, ho1, ho2⟩ := h.obj _ L hj
  rw [get_alloc, if_pos rfl] at ho1; cases ho1
  obtain ⟨hbase, hoff, arr, clock, es2, hblk, hperm, hrk⟩ := ho2
  have := h.realloc (o' := .mapu es') (ob := .map arr clock) hj rfl rfl rfl fun w' e => ⟨hbase, hoff, arr, clock, es2, e, hperm.trans hp, hrk⟩
  have e : w.heap.setIfInBounds L.blk (.map arr clock) = w.heap := by
    apply Array.ext_getElem?
    intro i
    by_cases hi : i = L.blk
    · subst hi
      have hlt := (Array.getElem?_eq_some_iff.1 hblk).1
      rw [Array.getElem?_setIfInBounds_self, if_pos hlt, hblk]
    · rw [Array.getElem?_setIfInBounds_ne (Ne.symm hi)]
  rw [e] at this
  exact this

/-! ### Any order -/
theorem count_set {listed : Array Bool} {i : Nat} (h : listed.getD i true = false) : (listed.setIfInBounds i true).count false + 1 = listed.count false := by
  have hlt : i < listed.size := by
    apply Classical.byContradiction
    intro hn
    rw [Array.getD_eq_getD_getElem?, Array.getElem?_eq_none (by omega)] at h
    cases h
  have hf : listed[i] = false := by
    rw [Array.getD_eq_getD_getElem?, Array.getElem?_eq_getElem hlt] at h
    exact h
  have hpos : 0 < listed.count false := Array.count_pos_iff.2 (by rw [← hf]; exact Array.getElem_mem hlt)
  rw [Array.setIfInBounds_def, dif_pos hlt, Array.count_set]
  simp [hf]
  omega

theorem wpAny_ind {I : Array Bool → Act → World → Prop}
    (hend : ∀ listed a w, listed.size = ops.size → Region.ready .any ops listed = [] → I listed a w → Q .normal a w)
    (hstep : ∀ listed a w i o, listed.size = ops.size → Closed ops listed → ops[i]? = some o → listed.getD i false = false → (∀ e ∈ o.after, Region.binds .any e = true → listed.getD e.on false = true) → I listed a w → wpOp P ops Q i (I (listed.setIfInBounds i true)) a w) :
    ∀ (fuel : Nat) (listed : Array Bool) (a : Act) (w : World), listed.size = ops.size → Closed ops listed → listed.count false ≤ fuel → I listed a w → wpAny P .any ops Q fuel listed a w := by
  intro fuel
  induction fuel with
  | zero =>
    intro listed a w hsz hcl hc hI
    have hr : Region.ready .any ops listed = [] := by
      rw [List.eq_nil_iff_forall_not_mem]
      intro i hi
      have := count_set (mem_ready.1 hi).1
      omega
    exact ⟨hr, hend listed a w hsz hr hI⟩
  | succ fuel ih =>
    intro listed a w hsz hcl hc hI
    refine ⟨fun hr => hend listed a w hsz hr hI, fun i hi => ?_⟩
    obtain ⟨hun, o, ho, hedges⟩ := mem_ready.1 hi
    have hlt := (Array.getElem?_eq_some_iff.1 ho).1
    have hun' : listed.getD i false = false := by
      rw [Array.getD_eq_getD_getElem?, Array.getElem?_eq_getElem (by omega)] at hun ⊢
      exact hun
    refine wpOp_mono (fun a' w' hI' => ?_) (hstep listed a w i o hsz hcl ho hun' hedges hI)
    exact ih _ a' w' (by simp [hsz]) (closed_set hcl hi) (by have := count_set hun; omega) hI'

theorem opd_tmp {t : Nat} {v : AV} (h : Nat.blt t dslot = true) (hv : env.get t = some v) : opd env (.tmp t) = some v := by
  unfold opd
  simp only [h, hv]
theorem wanted_none (hg : o.guard = none) (y : Nat → Option Bool) : Region.wanted o y = true := by unfold Region.wanted; rw [hg]
theorem wpOp_value {i : Nat} {u : Value} {w' : World} {K : Act → World → Prop} (ho : ops[i]? = some o) (hg : o.guard = none) (h : (execOp a.eval o).run P w = .ok (.value u) w') (hK : K (a.put o.dst u) w') : wpOp P ops Q i K a w := by
  unfold wpOp
  rw [ho]
  simp only
  rw [if_pos (wanted_none hg _)]
  refine .inl ?_
  unfold Oper.wp
  rw [h]
  exact hK
theorem wpOp_skip {i : Nat} {w' : World} {K : Act → World → Prop} (ho : ops[i]? = some o) (hg : o.guard = none) (h : (execOp a.eval o).run P w = .ok .skip w') (hK : K (a.put o.dst undef) w') : wpOp P ops Q i K a w := by
  unfold wpOp
  rw [ho]
  simp only
  rw [if_pos (wanted_none hg _)]
  refine .inl ?_
  unfold Oper.wp
  rw [h]
  exact hK

/-! ### What the look at the region says -/
theorem and6_eq {a b c d e f : Bool} (h : and6 a b c d e f = true) : a = true ∧ b = true ∧ c = true ∧ d = true ∧ e = true ∧ f = true := by
  cases a <;> cases b <;> cases c <;> cases d <;> cases e <;> cases f <;> first | (cases h; done) | exact ⟨rfl, rfl, rfl, rfl, rfl, rfl⟩
def WaitsFor (o : Oper) (i : Nat) : Prop := ∃ e ∈ o.after, Region.binds .any e = true ∧ e.on = i
theorem waitsL_eq {i : Nat} : ∀ {l : List Edge}, waitsL i l = true → ∃ e ∈ l, Region.binds .any e = true ∧ e.on = i
  | [], h => by cases h
  | e :: l, h => by
    unfold waitsL at h
    split at h
    · rename_i hb
      unfold bindsTo at hb
      split at hb
      · rename_i hb2; exact ⟨e, List.mem_cons_self .., hb2, natBeq hb⟩
      · cases hb
    · obtain ⟨e', h1, h2⟩ := waitsL_eq h
      exact ⟨e', List.mem_cons_of_mem _ h1, h2⟩
theorem waits_eq {i : Nat} (h : waits o i = true) : WaitsFor o i := by
  obtain ⟨e, h1, h2⟩ := waitsL_eq h
  exact ⟨e, by simpa using h1, h2⟩
theorem waitsAll_eq : ∀ {n : Nat}, waitsAll o n = true → ∀ i, i < n → WaitsFor o i
  | 0, _, i, hi => by omega
  | n + 1, h, i, hi => by
    unfold waitsAll at h
    split at h
    · rename_i hb
      rcases Nat.lt_or_ge i n with h1 | h1
      · exact waitsAll_eq h i h1
      · have : i = n := by omega
        subst this
        exact waits_eq hb
    · cases h
theorem isMake_eq {t m : Nat} (h : isMake o = some (t, m)) : o.op = .makeMap t none ∧ o.dst = some m ∧ o.guard = none := by
  unfold isMake at h
  split at h
  · cases h; exact ⟨by assumption, by assumption, by assumption⟩
  · cases h
theorem isBuild_eq {t d : Nat} {ps : Array (Nat × Operand)} (h : isBuild o = some (t, ps, d)) : o.op = .build t ps ∧ o.dst = some d ∧ o.guard = none := by
  unfold isBuild at h
  split at h
  · cases h; exact ⟨by assumption, by assumption, by assumption⟩
  · cases h
theorem isInsert_eq {t m d : Nat} {v : Value} (h : isInsert o = some (t, m, d, v)) : o.op = .insert t (.tmp m) (.tmp d) (.const v) ∧ o.dst = none ∧ o.guard = none := by
  unfold isInsert at h
  split at h
  · cases h; exact ⟨by assumption, by assumption, by assumption⟩
  · cases h
theorem isMv_eq {s d : Nat} (h : isMv o = some (s, d)) : (o.op = .move (.tmp s) ∨ o.op = .assign (.tmp s)) ∧ o.dst = some d ∧ o.guard = none := by
  unfold isMv at h
  split at h
  · cases h; exact ⟨.inl (by assumption), by assumption, by assumption⟩
  · cases h; exact ⟨.inr (by assumption), by assumption, by assumption⟩
  · cases h
theorem constsL_eq {env : T AV} : ∀ {l : List (Nat × Operand)}, constsL l = true → partsOf env l = partsOf .leaf l
  | [], _ => rfl
  | p :: l, h => by
    unfold constsL at h
    split at h
    · rename_i v hv
      unfold partsOf
      rw [constsL_eq h, hv]
      rfl
    · cases h

structure PairOk (P : Program) (t kt m : Nat) (o1 o2 : Oper) (x : LitE) (i : Nat) : Prop where
  build : ∃ ps, o1.op = .build kt ps ∧ ∀ env, buildA P env kt ps.toList = some (.agg x.cs)
  dst1 : o1.dst = some x.d
  g1 : o1.guard = none
  ins : ∃ V, o2.op = .insert t (.tmp m) (.tmp x.d) (.const V) ∧ ofValue V = some x.v
  dst2 : o2.dst = none
  g2 : o2.guard = none
  w0 : WaitsFor o2 0
  wi : WaitsFor o2 i

theorem litPairs_spec {t kt m : Nat} : ∀ {l : List Oper} {i : Nat} {es : List LitE} {r : List Oper}, litPairs P t kt m i l = some (es, r) → l = l.take (2 * es.length) ++ r ∧ 2 * es.length ≤ l.length ∧ ∀ q x, es[q]? = some x → ∃ o1 o2, l[2 * q]? = some o1 ∧ l[2 * q + 1]? = some o2 ∧ PairOk P t kt m o1 o2 x (i + 2 * q)
  | [], i, es, r, h => by
    unfold litPairs at h; cases h
    exact ⟨rfl, by simp, fun q x hx => by simp at hx⟩
  | [o1], i, es, r, h => by
    unfold litPairs at h; cases h
    exact ⟨rfl, by simp, fun q x hx => by simp at hx⟩
  | o1 :: o2 :: rest, i, es, r, h => by
    unfold litPairs at h
    split at h
    · rename_i bt ps d t' m' d' V hb hn
      split at h
      case h_2 => cases h
      rename_i cs v l r' hand hcon hbu hof hrec
      cases h
      obtain ⟨e1, e2, e3, e4, e5, e6⟩ := and6_eq hand
      have e1 := natBeq e1
      have e2 := natBeq e2
      have e3 := natBeq e3
      have e4 := natBeq e4
      subst e1 e2 e3 e4
      obtain ⟨b1, b2, b3⟩ := isBuild_eq hb
      obtain ⟨n1, n2, n3⟩ := isInsert_eq hn
      obtain ⟨h1, h2, h3⟩ := litPairs_spec hrec
      refine ⟨?_, by simp; omega, fun q x hx => ?_⟩
      · simp only [List.length_cons, Nat.mul_add, Nat.mul_one, Nat.add_comm _ 2]
        rw [show 2 + 2 * l.length = (2 * l.length + 1) + 1 by omega, List.take_succ_cons, List.take_succ_cons, List.cons_append, List.cons_append]
        rw [← h1]
      · cases q with
        | zero =>
          simp at hx
          subst hx
          refine ⟨o1, o2, rfl, rfl, ⟨ps, b1, fun env => ?_⟩, b2, b3, ⟨V, n1, hof⟩, n2, n3, waits_eq e5, waits_eq e6⟩
          have : buildA P env bt ps.toList = buildA P .leaf bt ps.toList := by unfold buildA; rw [constsL_eq hcon]
          rw [this]; exact hbu
        | succ q =>
          obtain ⟨p1, p2, q1, q2, q3⟩ := h3 q x (by simpa using hx)
          refine ⟨p1, p2, ?_, ?_, ?_⟩
          · rw [show 2 * (q + 1) = 2 * q + 1 + 1 by omega]; simpa using q1
          · rw [show 2 * (q + 1) + 1 = 2 * q + 1 + 1 + 1 by omega]; simpa using q2
          · have : i + 2 * (q + 1) = Nat.succ (Nat.succ i) + 2 * q := by omega
            rw [this]; exact q3
    · cases h
      exact ⟨rfl, by simp, fun q x hx => by simp at hx⟩

theorem apartKeys_eq {kt : TypeId} {x : LitE} : ∀ {l : List LitE}, apartKeys P H kt x l = true → ∀ y ∈ l, y.d = x.d ∨ eqA P H 8 kt (.agg x.cs) (.agg y.cs) = some (.lit false)
  | [], _, y, hy => by cases hy
  | z :: l, h, y, hy => by
    unfold apartKeys at h
    split at h
    · rename_i hb
      rcases List.mem_cons.1 hy with rfl | hy
      · exact .inl (natBeq hb).symm
      · exact apartKeys_eq h y hy
    · rename_i hb he
      rcases List.mem_cons.1 hy with rfl | hy
      · exact .inr he
      · exact apartKeys_eq h y hy
    · cases h
theorem keysOk_eq {kt e : TypeId} {s len : Nat} {all : List LitE} : ∀ {l : List LitE}, keysOk P H kt e s len all l = true → ∀ x ∈ l, apartKeys P H kt x all = true ∧ partsIn P e s x.cs len 0 = true
  | [], _, y, hy => by cases hy
  | z :: l, h, y, hy => by
    unfold keysOk at h
    split at h
    · rename_i h1 h2
      rcases List.mem_cons.1 hy with rfl | hy
      · exact ⟨h1, h2⟩
      · exact keysOk_eq h y hy
    · cases h
theorem nodupN_eq : ∀ {l : List Nat}, nodupN l = true → l.Nodup
  | [], _ => List.nodup_nil
  | n :: l, h => by
    unfold nodupN at h
    split at h
    · cases h
    · rename_i hb
      refine List.nodup_cons.2 ⟨fun hm => ?_, nodupN_eq h⟩
      rw [List.any_eq_false] at hb
      exact hb n hm (Nat.beq_refl n)

/-! ### The slots' values by number -/
theorem litPairVals_get {r : List (Option (Nat × AV))} : ∀ {es : List LitE}, (∀ q x, es[q]? = some x → (litPairVals es r)[2 * q]? = some (some (x.d, .agg x.cs)) ∧ (litPairVals es r)[2 * q + 1]? = some none) ∧ ∀ i, (litPairVals es r)[2 * es.length + i]? = r[i]?
  | [] => ⟨fun q x h => by simp at h, fun i => by simp [litPairVals]⟩
  | e :: es => by
    obtain ⟨h1, h2⟩ := litPairVals_get (r := r) (es := es)
    refine ⟨fun q x hx => ?_, fun i => ?_⟩
    · cases q with
      | zero => simp at hx; subst hx; exact ⟨rfl, rfl⟩
      | succ q =>
        obtain ⟨g1, g2⟩ := h1 q x (by simpa using hx)
        rw [show 2 * (q + 1) = 2 * q + 1 + 1 by omega]
        exact ⟨by simpa [litPairVals] using g1, by simpa [litPairVals] using g2⟩
    · rw [List.length_cons, show 2 * (es.length + 1) + i = (2 * es.length + i) + 1 + 1 by omega]
      simpa [litPairVals] using h2 i
theorem litVals_get {nx m dm da : Nat} {es : List LitE} : (litVals nx m dm da es)[0]? = some (some (m, .map nx)) ∧ (∀ q x, es[q]? = some x → (litVals nx m dm da es)[1 + 2 * q]? = some (some (x.d, .agg x.cs)) ∧ (litVals nx m dm da es)[2 + 2 * q]? = some none) ∧
    (litVals nx m dm da es)[1 + 2 * es.length]? = some (some (dm, .map nx)) ∧ (litVals nx m dm da es)[2 + 2 * es.length]? = some (some (da, .map nx)) := by
  obtain ⟨h1, h2⟩ := litPairVals_get (r := [some (dm, .map nx), some (da, .map nx)]) (es := es)
  refine ⟨rfl, fun q x hx => ?_, ?_, ?_⟩
  · obtain ⟨g1, g2⟩ := h1 q x hx
    rw [show 1 + 2 * q = 2 * q + 1 by omega, show 2 + 2 * q = 2 * q + 1 + 1 by omega]
    exact ⟨by simpa [litVals] using g1, by simpa [litVals] using g2⟩
  · rw [show 1 + 2 * es.length = (2 * es.length + 0) + 1 by omega]
    simpa [litVals] using h2 0
  · rw [show 2 + 2 * es.length = (2 * es.length + 1) + 1 by omega]
    simpa [litVals] using h2 1
theorem dstsOf_pairs {r : List (Option (Nat × AV))} : ∀ {es : List LitE}, dstsOf (litPairVals es r) = es.map (·.d) ++ dstsOf r
  | [] => rfl
  | e :: es => by simp [litPairVals, dstsOf, dstsOf_pairs (r := r) (es := es)]
theorem dstsOf_litVals {nx nx' m dm da : Nat} {es : List LitE} : dstsOf (litVals nx m dm da es) = dstsOf (litVals nx' m dm da es) := by
  simp [litVals, dstsOf, dstsOf_pairs]
theorem mem_dstsOf {t : Nat} : ∀ {l : List (Option (Nat × AV))}, t ∈ dstsOf l ↔ ∃ (i : Nat) (v : AV), l[i]? = some (some (t, v))
  | [] => by simp [dstsOf]
  | none :: l => by
    unfold dstsOf
    rw [mem_dstsOf (l := l)]
    constructor
    · rintro ⟨i, v, h⟩; exact ⟨i + 1, v, by simpa using h⟩
    · rintro ⟨i, v, h⟩
      cases i with
      | zero => simp at h
      | succ i => exact ⟨i, v, by simpa using h⟩
  | some p :: l => by
    unfold dstsOf
    rw [List.mem_cons, mem_dstsOf (l := l)]
    constructor
    · rintro (rfl | ⟨i, v, h⟩)
      · exact ⟨0, p.2, rfl⟩
      · exact ⟨i + 1, v, by simpa using h⟩
    · rintro ⟨i, v, h⟩
      cases i with
      | zero => simp at h; subst h; exact .inl rfl
      | succ i => exact .inr ⟨i, v, by simpa using h⟩
theorem dsts_inj : ∀ {l : List (Option (Nat × AV))} {i i' d : Nat} {v v' : AV}, (dstsOf l).Nodup → l[i]? = some (some (d, v)) → l[i']? = some (some (d, v')) → i = i'
  | [], i, i', d, v, v', _, h, _ => by simp at h
  | none :: l, i, i', d, v, v', hn, h, h' => by
    cases i with
    | zero => simp at h
    | succ i =>
      cases i' with
      | zero => simp at h'
      | succ i' => exact congrArg Nat.succ (dsts_inj (l := l) (d := d) (v := v) (v' := v') hn (by simpa using h) (by simpa using h'))
  | some p :: l, i, i', d, v, v', hn, h, h' => by
    obtain ⟨h1, h2⟩ := List.nodup_cons.1 (show (p.1 :: dstsOf l).Nodup from hn)
    cases i with
    | zero =>
      simp at h; subst h
      cases i' with
      | zero => rfl
      | succ i' => exact absurd (mem_dstsOf.2 ⟨i', v', by simpa using h'⟩) h1
    | succ i =>
      cases i' with
      | zero => simp at h'; subst h'; exact absurd (mem_dstsOf.2 ⟨i, v, by simpa using h⟩) h1
      | succ i' => exact congrArg Nat.succ (dsts_inj (l := l) (d := d) (v := v) (v' := v') h2 (by simpa using h) (by simpa using h'))
theorem setsA_other : ∀ {l : List (Option (Nat × AV))} {env : T AV} {t : Nat}, t ∉ dstsOf l → (setsA env l).get t = env.get t
  | [], _, _, _ => rfl
  | none :: l, env, t, h => setsA_other (l := l) h
  | some p :: l, env, t, h => by
    unfold setsA
    have h : t ∉ p.1 :: dstsOf l := h
    rw [setsA_other (l := l) (fun hh => h (List.mem_cons_of_mem _ hh)), T.get_set_ne _ _ (fun e => h (by rw [e]; exact List.mem_cons_self ..))]
theorem setsA_at : ∀ {l : List (Option (Nat × AV))} {env : T AV} {i d : Nat} {v : AV}, (dstsOf l).Nodup → l[i]? = some (some (d, v)) → (setsA env l).get d = some v
  | [], _, i, d, v, _, h => by simp at h
  | none :: l, env, i, d, v, hn, h => by
    cases i with
    | zero => simp at h
    | succ i => exact setsA_at (l := l) hn (by simpa using h)
  | some p :: l, env, i, d, v, hn, h => by
    obtain ⟨h1, h2⟩ := List.nodup_cons.1 (show (p.1 :: dstsOf l).Nodup from hn)
    unfold setsA
    cases i with
    | zero =>
      simp at h; subst h
      rw [setsA_other h1, T.get_set_same]
    | succ i => exact setsA_at (l := l) h2 (by simpa using h)

def entAt (es : List LitE) (q : Nat) : ME := match es[q]? with | some x => ⟨.agg x.cs, x.v, 0⟩ | none => ⟨undefA, undefA, 0⟩
theorem litMEs_eq : ∀ (es : List LitE), litMEs es = (List.range es.length).map (entAt es)
  | [] => rfl
  | e :: es => by
    rw [List.length_cons, List.range_succ_eq_map, List.map_cons, List.map_map]
    show _ :: litMEs es = _
    rw [litMEs_eq es]
    rfl

structure LitFacts (P : Program) (N : Nat) (H : Heap) (ops : Array Oper) (r : LitR) where
  t : TypeId
  kt : TypeId
  et : TypeId
  e : TypeId
  len : Nat
  s : Nat
  kd : IntKind
  hu : P.underlying t = some (.map kt et)
  hkt : P.underlying kt = some (.array len e)
  hke : P.underlying e = some (.int kd)
  hs : szOf P e = some s
  mkd : ∃ o, ops[0]? = some o ∧ o.op = .makeMap t none ∧ o.dst = some r.m ∧ o.guard = none
  prs : ∀ q x, r.es[q]? = some x → ∃ o1 o2, ops[1 + 2 * q]? = some o1 ∧ ops[2 + 2 * q]? = some o2 ∧ PairOk P t kt r.m o1 o2 x (1 + 2 * q)
  mv : ∃ o, ops[1 + 2 * r.es.length]? = some o ∧ (o.op = .move (.tmp r.m) ∨ o.op = .assign (.tmp r.m)) ∧ o.dst = some r.dm ∧ o.guard = none ∧ ∀ i, i < 1 + 2 * r.es.length → WaitsFor o i
  as : ∃ o, ops[2 + 2 * r.es.length]? = some o ∧ (o.op = .move (.tmp r.dm) ∨ o.op = .assign (.tmp r.dm)) ∧ o.dst = some r.da ∧ o.guard = none ∧ WaitsFor o (1 + 2 * r.es.length)
  sz : ops.size = 3 + 2 * r.es.length
  up : EdgesLt ops
  nd : (dstsOf (litVals 0 r.m r.dm r.da r.es)).Nodup
  lt : ∀ d ∈ dstsOf (litVals 0 r.m r.dm r.da r.es), d < N
  keys : ∀ x ∈ r.es, partsIn P e s x.cs len 0 = true ∧ ∀ y ∈ r.es, y.d = x.d ∨ eqA P H 8 kt (.agg x.cs) (.agg y.cs) = some (.lit false)

theorem edgesUp_eq : ∀ {l : List Oper} {n : Nat}, edgesUp n l = true → ∀ i o, l[i]? = some o → ∀ e ∈ o.after, Region.binds .any e = true → e.on < n + i
  | [], n, _, i, o, h, _, _, _ => by simp at h
  | o' :: l, n, hu, i, o, h, e, he, hb => by
    unfold edgesUp at hu
    split at hu
    · rename_i hall
      cases i with
      | zero =>
        simp at h; subst h
        have := List.all_eq_true.1 hall e (by simpa using he)
        rw [hb] at this
        simp only [Nat.blt_eq] at this
        omega
      | succ i =>
        have := edgesUp_eq hu i o (by simpa using h) e he hb
        omega
    · cases hu
theorem litOf_facts {r : LitR} (h : litOf P N H ops.toList = some r) : Nonempty (LitFacts P N H ops r) := by
  unfold litOf at h
  split at h
  · cases h
  rename_i o rest hops
  split at h
  · cases h
  rename_i t m hmk
  split at h
  case h_2 => cases h
  rename_i kt et hu
  split at h
  case h_2 => cases h
  rename_i len e hia
  obtain ⟨hkt, kd, hke⟩ := intArr_eq hia
  split at h
  case h_2 => cases h
  rename_i s es mv as hs hpr
  split at h
  case h_2 => cases h
  rename_i s1 dm s2 da hmv has
  split at h
  case h_2 => cases h
  rename_i hand hkeys hup
  cases h
  obtain ⟨e1, e2, e3, e4, e5, e6⟩ := and6_eq hand
  have e1 := natBeq e1
  have e2 := natBeq e2
  subst e1 e2
  obtain ⟨k1, k2, k3⟩ := isMake_eq hmk
  obtain ⟨m1, m2, m3⟩ := isMv_eq hmv
  obtain ⟨a1, a2, a3⟩ := isMv_eq has
  obtain ⟨p1, p2, p3⟩ := litPairs_spec hpr
  have hlen : rest.length = 2 * es.length + 2 := by
    have := congrArg List.length p1
    rw [List.length_append, List.length_take, Nat.min_eq_left p2] at this
    simpa using this
  have hget : ∀ i : Nat, ops[i]? = (o :: rest)[i]? := fun i => by rw [← hops]; simp
  have htail : ∀ i, rest[2 * es.length + i]? = [mv, as][i]? := fun i => by
    rw [p1, List.getElem?_append_right (by rw [List.length_take]; omega), List.length_take, Nat.min_eq_left p2, Nat.add_sub_cancel_left]
  refine ⟨⟨t, kt, et, e, len, s, kd, hu, hkt, hke, hs, ⟨o, by rw [hget]; rfl, k1, k2, k3⟩, fun q x hx => ?_, ⟨mv, ?_, m1, m2, m3, fun i hi => waitsAll_eq e3 i (by simpa [Nat.add_comm] using hi)⟩, ⟨as, ?_, a1, a2, a3, ?_⟩, ?_, ?_, nodupN_eq e5, fun d hd => ?_, fun x hx => ?_⟩⟩
  · obtain ⟨o1, o2, q1, q2, q3⟩ := p3 q x hx
    refine ⟨o1, o2, ?_, ?_, q3⟩
    · rw [hget, show 1 + 2 * q = 2 * q + 1 by omega]; simpa using q1
    · rw [hget, show 2 + 2 * q = 2 * q + 1 + 1 by omega]; simpa using q2
  · rw [hget, show 1 + 2 * es.length = (2 * es.length + 0) + 1 by omega, List.getElem?_cons_succ]
    exact htail 0
  · rw [hget, show 2 + 2 * es.length = (2 * es.length + 1) + 1 by omega, List.getElem?_cons_succ]
    exact htail 1
  · have := waits_eq e4
    rw [show 1 + 2 * es.length = Nat.succ (Nat.mul 2 es.length) by show 1 + 2 * es.length = 2 * es.length + 1; omega]
    exact this
  · have : ops.toList.length = rest.length + 1 := by rw [hops]; rfl
    rw [Array.length_toList] at this
    show ops.size = 3 + 2 * es.length
    omega
  · intro i o' ho' e' he' hb'
    have := edgesUp_eq hup i o' (by simpa using ho') e' he' hb'
    omega
  · have := List.all_eq_true.1 e6 d hd
    rw [Nat.blt_eq] at this
    exact this
  · obtain ⟨g1, g2⟩ := keysOk_eq hkeys x hx
    exact ⟨g2, apartKeys_eq g1⟩

theorem hits_apart {kt : TypeId} {k : AV} : ∀ {l : List ME}, (∀ x ∈ l, eqA P H 8 kt k x.key = some (.lit false)) → hits P H kt k l = some []
  | [], _ => rfl
  | x :: l, h => by
    unfold hits
    rw [h x (List.mem_cons_self ..), hits_apart fun y hy => h y (List.mem_cons_of_mem _ hy)]
theorem lit_ext (hi : Inv ρ w0 j H w) {o : Obj} : Ext H (H.alloc o) := by
  refine ⟨fun n ob e => ?_, by rw [Heap.alloc_eq]⟩
  rw [get_alloc, if_neg (fun hn => ?_)]
  · exact e
  · subst hn
    exact absurd (hi.used _ _ e) (Nat.lt_irrefl _)

/-- The invariant of the region. -/
def LitI (ρ : Val) (w0 : World) (j : J) (H : Heap) (N : Nat) (env : T AV) (r : LitR) (w : World) (listed : Array Bool) (a' : Act) (w' : World) : Prop :=
  ∃ (env' : T AV) (S : List Nat), ER ρ (jset j H.nx ⟨w.heap.size, 0, 0⟩) N env' a' ∧
    (∀ i d v, (litVals H.nx r.m r.dm r.da r.es)[i]? = some (some (d, v)) → listed.getD i false = true → env'.get d = some v) ∧
    (∀ t, (∀ i v, (litVals H.nx r.m r.dm r.da r.es)[i]? = some (some (t, v)) → listed.getD i false = false) → env'.get t = env.get t) ∧
    (listed.getD 0 false = false → w' = w) ∧
    (listed.getD 0 false = true → Inv ρ w0 (jset j H.nx ⟨w.heap.size, 0, 0⟩) (H.alloc (.mapu (S.map (entAt r.es)))) w') ∧
    S.Nodup ∧ (∀ q, q ∈ S ↔ q < r.es.length ∧ listed.getD (2 + 2 * q) false = true)

/-- A slot's turn. -/
theorem LitI.slot {r : LitR} {listed : Array Bool} {i d : Nat} {v : AV} {u : Value} {env' : T AV} {a' : Act} {j1 : J} (hsz : i < listed.size)
    (hnd : (dstsOf (litVals H.nx r.m r.dm r.da r.es)).Nodup) (hlt : d < N) (hv : (litVals H.nx r.m r.dm r.da r.es)[i]? = some (some (d, v)))
    (he : ER ρ j1 N env' a') (h1 : ∀ i d v, (litVals H.nx r.m r.dm r.da r.es)[i]? = some (some (d, v)) → listed.getD i false = true → env'.get d = some v)
    (h2 : ∀ t, (∀ i v, (litVals H.nx r.m r.dm r.da r.es)[i]? = some (some (t, v)) → listed.getD i false = false) → env'.get t = env.get t) (hR : R ρ j1 v u) :
    ER ρ j1 N (env'.set d v) (a'.put (some d) u) ∧ (∀ i' d' v', (litVals H.nx r.m r.dm r.da r.es)[i']? = some (some (d', v')) → (listed.setIfInBounds i true).getD i' false = true → (env'.set d v).get d' = some v') ∧
    (∀ t, (∀ i' v', (litVals H.nx r.m r.dm r.da r.es)[i']? = some (some (t, v')) → (listed.setIfInBounds i true).getD i' false = false) → (env'.set d v).get t = env.get t) := by
  refine ⟨he.put hlt hR, fun i' d' v' hv' hl => ?_, fun t ht => ?_⟩
  · by_cases hii : i' = i
    · subst hii
      rw [hv] at hv'; cases hv'
      exact T.get_set_same _ _ _
    · have hdd : d' ≠ d := fun e => by
        subst e
        exact hii (dsts_inj hnd hv' hv)
      rw [T.get_set_ne _ _ hdd]
      rw [getD_set_ne false (Ne.symm hii)] at hl
      exact h1 i' d' v' hv' hl
  · have htd : t ≠ d := fun e => by
      subst e
      have := ht i v hv
      rw [Array.getD_eq_getD_getElem?, Array.getElem?_setIfInBounds_self, if_pos hsz] at this
      cases this
    rw [T.get_set_ne _ _ htd]
    refine h2 t fun i' v' hv' => ?_
    have := ht i' v' hv'
    by_cases hii : i' = i
    · subst hii
      rw [hv] at hv'; cases hv'
      exact absurd rfl htd
    · rwa [getD_set_ne false (Ne.symm hii)] at this

theorem set_getD {listed : Array Bool} {i q : Nat} (hsz : i < listed.size) : (listed.setIfInBounds i true).getD q false = true ↔ q = i ∨ listed.getD q false = true := by
  by_cases h : q = i
  · subst h
    simp [Array.getD_eq_getD_getElem?, Array.getElem?_setIfInBounds_self, hsz]
  · rw [getD_set_ne false (Ne.symm h)]
    simp [h]

theorem lit_region {r : LitR} (hmo : P.follows .mixedOrders = true) (hl : litOf P N H ops.toList = some r) (hi : Inv ρ w0 j H w) (he : ER ρ j N env a) {id : Nat} {k : T AV → Heap → Ob}
    (h : Ob.den ρ (k (setsA env (litVals H.nx r.m r.dm r.da r.es)) (H.alloc (.mapu (litMEs r.es))))) (hQ : ∀ a' w', OpsE ρ w0 j H N k a' w' → Q Exit.normal a' w') : (Code.region id ops true).wp P Q a w := by
  obtain ⟨F⟩ := litOf_facts hl
  have hdst := dstsOf_litVals (nx := H.nx) (nx' := 0) (m := r.m) (dm := r.dm) (da := r.da) (es := r.es)
  have hnd : (dstsOf (litVals H.nx r.m r.dm r.da r.es)).Nodup := by rw [hdst]; exact F.nd
  have hltd : ∀ i d v, (litVals H.nx r.m r.dm r.da r.es)[i]? = some (some (d, v)) → d < N := fun i d v hv => F.lt d (by rw [← hdst]; exact mem_dstsOf.2 ⟨i, v, hv⟩)
  obtain ⟨v0, vq, vmv, vas⟩ := litVals_get (nx := H.nx) (m := r.m) (dm := r.dm) (da := r.da) (es := r.es)
  have hfresh := hi.fresh
  have hdis : ∀ t, t < N → Nat.blt t dslot = true := fun t ht => by rw [Nat.blt_eq]; exact Nat.lt_of_lt_of_le ht he.le
  obtain ⟨wd, hwd⟩ : ∃ wd : World, wd = { w with drawn := w.drawn + 1 } := ⟨_, rfl⟩
  have hiw : Inv ρ w0 j H wd := by rw [hwd]; exact hi.drew
  have hinj1 : (jset j H.nx ⟨wd.heap.size, 0, 0⟩) H.nx = some ⟨wd.heap.size, 0, 0⟩ := jset_same _ _ _
  refine wp_region_any hmo ?_
  rw [← hwd]
  have hsz0 : (Array.replicate ops.size false).size = ops.size := by simp
  have hfalse : ∀ i, (Array.replicate ops.size false).getD i false = false := fun i => by
    rw [Array.getD_eq_getD_getElem?, Array.getElem?_replicate]
    split <;> rfl
  refine wpAny_ind (I := LitI ρ w0 j H N env r wd) (fun listed a' w' hsz hr hI => ?_) (fun listed a' w' i o hsz hcl ho hun hed hI => ?_) ops.size _ _ _ hsz0 (fun i o _ hl => by rw [hfalse] at hl; cases hl) (Nat.le_trans (Array.count_le_size) (by simp)) ?_
  · -- the end
    obtain ⟨env', S, hE, g1, g2, _, g4, g5, g6⟩ := hI
    have hall := all_listed F.up hsz hr
    have hszF := F.sz
    have hinv := g4 (hall 0 (by omega))
    have hperm : (S.map (entAt r.es)).Perm (litMEs r.es) := by
      rw [litMEs_eq]
      refine List.Perm.map _ ((List.perm_ext_iff_of_nodup g5 List.nodup_range).2 fun q => ?_)
      rw [g6, List.mem_range]
      constructor
      · exact fun h => h.1
      · exact fun h => ⟨h, hall _ (by omega)⟩
    have hinv := hinv.perm hinj1 hperm
    have heq : ∀ t, env'.get t = (setsA env (litVals H.nx r.m r.dm r.da r.es)).get t := fun t => by
      by_cases ht : t ∈ dstsOf (litVals H.nx r.m r.dm r.da r.es)
      · obtain ⟨q, v, hv⟩ := mem_dstsOf.1 ht
        have hq : q < ops.size := by
          have := (List.getElem?_eq_some_iff.1 hv).1
          have hlen : (litVals H.nx r.m r.dm r.da r.es).length = 3 + 2 * r.es.length := by
            have : ∀ (es : List LitE) (rr : List (Option (Nat × AV))), (litPairVals es rr).length = 2 * es.length + rr.length := fun es rr => by
              induction es with
              | nil => simp [litPairVals]
              | cons e es ih => simp [litPairVals, ih]; omega
            simp [litVals, this]; omega
          omega
        rw [g1 q t v hv (hall q hq), setsA_at hnd hv]
      · rw [setsA_other ht]
        exact g2 t fun q v hv => absurd (mem_dstsOf.2 ⟨q, v, hv⟩) ht
    refine hQ a' w' ⟨setsA env (litVals H.nx r.m r.dm r.da r.es), H.alloc (.mapu (litMEs r.es)), _, ⟨hE.size, hE.le, fun t ht => ?_, ?_⟩, hinv, ⟨sub_jset hfresh, fun q L e e0 => ?_, (St.extend hi _).keep, (St.extend hi _).nx⟩, h⟩
    · have := hE.get t ht
      unfold envGet at this ⊢
      rw [heq t] at this
      exact this
    · have := hE.dfr
      unfold envGet at this ⊢
      rw [heq dslot] at this
      exact this
    · by_cases hq : q = H.nx
      · omega
      · rw [jset_ne _ _ hq, e0] at e; cases e
  · -- a step
    obtain ⟨env', S, hE, g1, g2, g3, g4, g5, g6⟩ := hI
    have hlt : i < listed.size := by rw [hsz]; exact (Array.getElem?_eq_some_iff.1 ho).1
    have hszF := F.sz
    have hwait : ∀ q, WaitsFor o q → listed.getD q false = true := fun q ⟨e, e1, e2, e3⟩ => e3 ▸ hed e e1 e2
    have hmdl : Nat.blt r.m dslot = true := hdis _ (hltd 0 _ _ v0)
    have cases5 : i = 0 ∨ (∃ q, q < r.es.length ∧ i = 1 + 2 * q) ∨ (∃ q, q < r.es.length ∧ i = 2 + 2 * q) ∨ i = 1 + 2 * r.es.length ∨ i = 2 + 2 * r.es.length := by
      rcases Nat.eq_zero_or_pos i with h0 | h0
      · exact .inl h0
      · rcases Nat.mod_two_eq_zero_or_one i with hm | hm
        · have : i = 2 + 2 * (i / 2 - 1) := by omega
          by_cases hq : i / 2 - 1 < r.es.length
          · exact .inr (.inr (.inl ⟨_, hq, this⟩))
          · exact .inr (.inr (.inr (.inr (by omega))))
        · have : i = 1 + 2 * (i / 2) := by omega
          by_cases hq : i / 2 < r.es.length
          · exact .inr (.inl ⟨_, hq, this⟩)
          · exact .inr (.inr (.inr (.inl (by omega))))
    have keepS : ∀ q, i ≠ 2 + 2 * q → ((listed.setIfInBounds i true).getD (2 + 2 * q) false = true ↔ listed.getD (2 + 2 * q) false = true) := fun q hq => by
      rw [getD_set_ne false hq]
    rcases cases5 with rfl | ⟨q, hq, rfl⟩ | ⟨q, hq, rfl⟩ | rfl | rfl
    · -- the map is made
      obtain ⟨o', p1, p2, p3, p4⟩ := F.mkd
      rw [ho] at p1; cases p1
      rw [g3 hun]
      have hS : S = [] := by
        rw [List.eq_nil_iff_forall_not_mem]
        intro q hqS
        obtain ⟨h1, h2⟩ := (g6 q).1 hqS
        obtain ⟨x, hx⟩ : ∃ x, r.es[q]? = some x := ⟨_, List.getElem?_eq_getElem h1⟩
        obtain ⟨o1, o2, e1, e2, pk⟩ := F.prs q x hx
        obtain ⟨ed, d1, d2, d3⟩ := pk.w0
        have := hcl _ _ e2 h2 ed d1 d2
        rw [d3, hun] at this
        cases this
      subst hS
      obtain ⟨s1, s2, s3⟩ := LitI.slot (r := r) hlt hnd (hltd 0 _ _ v0) v0 hE g1 g2 (u := .map (some wd.heap.size)) ⟨_, hinj1, rfl⟩
      refine wpOp_value (u := .map (some wd.heap.size)) (w' := { wd with heap := wd.heap.push (.map #[] 0) }) ho p4 (by simp only [execOp, p2, Instr.makeMap, Option.map_none, Sem.run_bind, run_newObj, Result.andThen_ok, Sem.run_pure]) ?_
      rw [p3]
      refine ⟨_, [], s1, s2, s3, fun h0 => ?_, fun _ => ?_, List.nodup_nil, fun q => ?_⟩
      · rw [(set_getD hlt).2 (.inl rfl)] at h0; cases h0
      · exact (hiw.alloc (o := .mapu []) (ob := .map #[] 0) (c := 0) ⟨rfl, #[], 0, [], rfl, .refl _, rfl⟩ (fun v e g cl sh hob => by cases hob)).1
      · rw [keepS q (by omega)]
        exact g6 q
    · -- a key is built
      obtain ⟨x, hx⟩ : ∃ x, r.es[q]? = some x := ⟨_, List.getElem?_eq_getElem hq⟩
      obtain ⟨o1, o2, e1, e2, pk⟩ := F.prs q x hx
      rw [ho] at e1; cases e1
      obtain ⟨ps, b1, b2⟩ := pk.build
      have hv := (vq q x hx).1
      obtain ⟨u, hrun, hR⟩ := lBuild_sound (H := H) (w := w') hE b1 (v := .agg x.cs) (b2 env')
      obtain ⟨s1, s2, s3⟩ := LitI.slot (r := r) hlt hnd (hltd _ _ _ hv) hv hE g1 g2 hR
      refine wpOp_value ho pk.g1 hrun ?_
      rw [pk.dst1]
      refine ⟨_, S, s1, s2, s3, fun h0 => g3 ?_, fun h0 => g4 ?_, g5, fun q' => ?_⟩
      · rwa [getD_set_ne false (by omega)] at h0
      · rwa [getD_set_ne false (by omega)] at h0
      · rw [keepS q' (by omega)]; exact g6 q'
    · -- an entry is put in
      obtain ⟨x, hx⟩ : ∃ x, r.es[q]? = some x := ⟨_, List.getElem?_eq_getElem hq⟩
      obtain ⟨o1, o2, e1, e2, pk⟩ := F.prs q x hx
      rw [ho] at e2; cases e2
      obtain ⟨V, n1, n2⟩ := pk.ins
      have hv := (vq q x hx).1
      have hL0 := hwait 0 pk.w0
      have hLk := hwait _ pk.wi
      have hm : R ρ (jset j H.nx ⟨wd.heap.size, 0, 0⟩) (.map H.nx) (a'.eval (.tmp r.m)) := opd_sound hE (opd_tmp hmdl (g1 0 _ _ v0 hL0))
      have hkv : R ρ (jset j H.nx ⟨wd.heap.size, 0, 0⟩) (.agg x.cs) (a'.eval (.tmp x.d)) := opd_sound hE (opd_tmp (hdis _ (hltd _ _ _ hv)) (g1 _ _ _ hv hLk))
      have hVv : R ρ (jset j H.nx ⟨wd.heap.size, 0, 0⟩) x.v V := R_ofValue n2
      obtain ⟨L, hL, hmv⟩ := hm
      rw [hinj1] at hL; cases hL
      have hinv := g4 hL0
      obtain ⟨k1, k2⟩ := F.keys x (List.mem_of_getElem? hx)
      have hqS : q ∉ S := fun hh => by rw [((g6 q).1 hh).2] at hun; cases hun
      have hhits : hits P (H.alloc (.mapu (S.map (entAt r.es)))) F.kt (.agg x.cs) (S.map (entAt r.es)) = some [] := by
        refine hits_apart fun y hy => ?_
        obtain ⟨q', hq', rfl⟩ := List.mem_map.1 hy
        obtain ⟨h1, h2⟩ := (g6 q').1 hq'
        obtain ⟨y, hyq⟩ : ∃ y, r.es[q']? = some y := ⟨_, List.getElem?_eq_getElem h1⟩
        have e : entAt r.es q' = ⟨.agg y.cs, y.v, 0⟩ := by unfold entAt; rw [hyq]
        rw [e]
        rcases k2 y (List.mem_of_getElem? hyq) with hd | hne
        · exfalso
          have h1 := (vq q' y hyq).1
          rw [hd] at h1
          have := dsts_inj hnd h1 hv
          have : q' = q := by omega
          exact hqS (this ▸ hq')
        · exact (lit_ext hi (o := .mapu (S.map (entAt r.es)))).eqA _ _ _ _ _ hne
      obtain ⟨w2, r1, r2⟩ := insertu_run hinv hinj1 F.hu F.hkt F.hke F.hs hkv hVv k1 hhits
      refine wpOp_skip (w' := w2) ho pk.g2 ?_ ?_
      · have hc : a'.eval (.const V) = V := rfl
        simp only [execOp, n1, hmv, hc, Sem.run_bind, r1, Result.andThen_ok, Sem.run_pure]
      · rw [pk.dst2]
        have hent : entAt r.es q = ⟨.agg x.cs, x.v, 0⟩ := by unfold entAt; rw [hx]
        refine ⟨env', S ++ [q], hE, fun i' d' v' hv' hl' => g1 i' d' v' hv' ?_, fun t ht => g2 t fun i' v' hv' => ?_, fun h0 => ?_, fun _ => ?_, ?_, fun q' => ?_⟩
        · by_cases hii : i' = 2 + 2 * q
          · subst hii; rw [(vq q x hx).2] at hv'; cases hv'
          · rwa [getD_set_ne false (Ne.symm hii)] at hl'
        · have := ht i' v' hv'
          by_cases hii : i' = 2 + 2 * q
          · subst hii; rw [(vq q x hx).2] at hv'; cases hv'
          · rwa [getD_set_ne false (Ne.symm hii)] at this
        · rw [getD_set_ne false (by omega), hL0] at h0; cases h0
        · rw [List.map_append, List.map_singleton, hent]; exact r2
        · refine List.nodup_append.2 ⟨g5, by simp, fun y hy z hz => ?_⟩
          rw [List.mem_singleton] at hz
          subst hz
          exact fun e => hqS (e ▸ hy)
        · rw [List.mem_append, List.mem_singleton, g6, set_getD hlt]
          constructor
          · rintro (⟨h1, h2⟩ | rfl)
            · exact ⟨h1, .inr h2⟩
            · exact ⟨hq, .inl rfl⟩
          · rintro ⟨h1, h2⟩
            rcases h2 with h2 | h2
            · exact .inr (by omega)
            · exact .inl ⟨h1, h2⟩
    · -- handed on
      obtain ⟨o', p1, p2, p3, p4, p5⟩ := F.mv
      rw [ho] at p1; cases p1
      have hL0 := hwait 0 (p5 0 (by omega))
      obtain ⟨u, hrun, hR⟩ := lMove_sound (P := P) (H := H) (w := w') hE p2 (v := .map H.nx) (opd_tmp hmdl (g1 0 _ _ v0 hL0))
      obtain ⟨s1, s2, s3⟩ := LitI.slot (r := r) hlt hnd (hltd _ _ _ vmv) vmv hE g1 g2 hR
      refine wpOp_value ho p4 hrun ?_
      rw [p3]
      refine ⟨_, S, s1, s2, s3, fun h0 => g3 ?_, fun h0 => g4 ?_, g5, fun q' => ?_⟩
      · rwa [getD_set_ne false (by omega)] at h0
      · rwa [getD_set_ne false (by omega)] at h0
      · rw [keepS q' (by omega)]; exact g6 q'
    · -- and laid into the result
      obtain ⟨o', p1, p2, p3, p4, p5⟩ := F.as
      rw [ho] at p1; cases p1
      have hLm := hwait _ p5
      obtain ⟨u, hrun, hR⟩ := lMove_sound (P := P) (H := H) (w := w') hE p2 (v := .map H.nx) (opd_tmp (hdis _ (hltd _ _ _ vmv)) (g1 _ _ _ vmv hLm))
      obtain ⟨s1, s2, s3⟩ := LitI.slot (r := r) hlt hnd (hltd _ _ _ vas) vas hE g1 g2 hR
      refine wpOp_value ho p4 hrun ?_
      rw [p3]
      refine ⟨_, S, s1, s2, s3, fun h0 => g3 ?_, fun h0 => g4 ?_, g5, fun q' => ?_⟩
      · rwa [getD_set_ne false (by omega)] at h0
      · rwa [getD_set_ne false (by omega)] at h0
      · by_cases hqn : 2 + 2 * q' = 2 + 2 * r.es.length
        · rw [g6]
          constructor
          · intro hh; omega
          · intro hh; omega
        · rw [keepS q' (Ne.symm hqn)]; exact g6 q'
  · -- the start
    refine ⟨env, [], he.mono (sub_jset hfresh), (fun i d v _ hl => by rw [hfalse] at hl; cases hl), fun _ _ => rfl, fun _ => rfl, (fun hl => by rw [hfalse] at hl; cases hl), List.nodup_nil, fun q => ?_⟩
    rw [hfalse]
    simp

end
end Go.Dw
