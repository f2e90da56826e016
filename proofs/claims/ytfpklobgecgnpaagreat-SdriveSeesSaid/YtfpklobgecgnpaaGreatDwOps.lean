/-
  DwOps: every operation that is carried out: what is behind it.
-/
import Derived.Test.YtfpklobgecgnpaaGreatDwAppend
namespace Go.Dw
set_option linter.unusedSimpArgs false
set_option linter.unusedVariables false

/-- What there is behind a step that hands on to 'k'. -/
def Post (ρ : Val) (w0 : World) (j : J) (H : Heap) (k : K) (u : Value) (w' : World) : Prop :=
  ∃ v H' j', R ρ j' v u ∧ Inv ρ w0 j' H' w' ∧ St j H j' H' ∧ Ob.den ρ (k v H')

/-- An operation's run ends well. -/
def OpOk (P : Program) (ρ : Val) (w0 : World) (j : J) (H : Heap) (w : World) (a : Act) (o : Oper) (k : K) (Q : Exit → Act → World → Prop) : Prop :=
  o.wp P a w (fun a' w' => ∃ u, a' = a.put o.dst u ∧ Post ρ w0 j H k u w') Q

section
variable {P : Program} {ρ : Val} {w0 : World} {j : J} {H : Heap} {w : World} {N : Nat} {env : T AV} {a : Act} {o : Oper} {k : K} {Q : Exit → Act → World → Prop}

theorem OpOk.value {u : Value} {w' : World} (h : (execOp a.eval o).run P w = .ok (.value u) w') (hp : Post ρ w0 j H k u w') : OpOk P ρ w0 j H w a o k Q := by
  unfold OpOk Oper.wp
  rw [h]
  exact ⟨u, rfl, hp⟩
theorem OpOk.skip {w' : World} (h : (execOp a.eval o).run P w = .ok .skip w') (hp : Post ρ w0 j H k undef w') : OpOk P ρ w0 j H w a o k Q := by
  unfold OpOk Oper.wp
  rw [h]
  exact ⟨undef, rfl, hp⟩

theorem light_ok (hi : Inv ρ w0 j H w) (he : ER ρ j N env a) (h : Ob.den ρ (okL o H k (light P o.op env H))) : OpOk P ρ w0 j H w a o k Q := by
  cases hl : light P o.op env H with
  | none => rw [hl] at h; exact h.elim
  | some v =>
    rw [hl] at h
    obtain ⟨u, h1, h2⟩ := light_sound hi he hl
    exact .value h1 ⟨v, H, j, h2, hi, St.refl j H, h⟩

theorem alloc_ok (hi : Inv ρ w0 j H w) (he : ER ρ j N env a) (h : Ob.den ρ (okA o H k (allocA P o.op env H.nx))) : OpOk P ρ w0 j H w a o k Q := by
  cases hl : allocA P o.op env H.nx with
  | none => rw [hl] at h; exact h.elim
  | some q =>
    obtain ⟨v, ob⟩ := q
    rw [hl] at h
    obtain ⟨⟨u, obj, h1, h2, h3⟩, h4⟩ := allocA_sound (P := P) (w := w) he hl
    obtain ⟨h5, h6⟩ := hi.alloc (o := ob) (ob := obj) (c := 0) h2 (fun v e g cl sh hob => by subst hob; exact .inl h4)
    exact .value h1 ⟨v, _, _, h3, h5, h6, h⟩

theorem store_ok (hi : Inv ρ w0 j H w) (he : ER ρ j N env a) {t : TypeId} {xa xv : Operand} (ho : o.op = .store t xa xv) (h : Ob.den ρ (dStore P t xa xv env H k)) : OpOk P ρ w0 j H w a o k Q := by
  unfold dStore at h
  split at h
  case h_2 => exact h.elim
  rename_i n off x hx hv
  obtain ⟨L, hj, hu⟩ := opd_sound he hx
  have hr := RL_cells (opd_sound he hv)
  unfold storeA at h
  split at h
  case h_2 => exact h.elim
  rename_i s hs
  split at h
  case h_2 => exact h.elim
  rename_i hb
  have hb := natBeq hb
  cases hst : H.store n off x.cells with
  | none => rw [hst] at h; exact h.elim
  | some H' =>
    rw [hst] at h
    obtain ⟨w', h1, h2, h3⟩ := hi.store hst hj hr P
    have hsz : (a.eval xv).cells.size = s := by
      have := hr.length; rw [Array.length_toList] at this; omega
    refine .skip (w' := w') ?_ ⟨undefA, H', j, R_undef, h2, h3, h⟩
    simp only [execOp, ho, hu, Instr.storeAt, Instr.sureAddr, storeVar, Sem.run_bind, Sem.run_pure, Result.andThen_ok, run_sizeOf hs]
    rw [if_neg (by omega), h1]
    rfl

/-! ### Maps -/
theorem R_key_fun {kd : TypeDesc} {q : AV} {u u' : Value} (hk : isKey kd q = true) (h : R ρ j q u) (h' : R ρ j q u') : u = u' ∧ Instr.sameBits 10000 u u = true := by
  unfold isKey at hk
  split at hk
  · split at hk
    · simp only [R] at h h'; subst h h'
      exact ⟨rfl, by simp [Instr.sameBits]⟩
    · cases hk
  · split at hk
    · obtain ⟨g, rfl⟩ := h; obtain ⟨_, rfl⟩ := h'
      exact ⟨rfl, by simp only [Instr.sameBits, bytes_beq g g, natsBeq_refl]⟩
    · cases hk
  · cases hk

theorem nthM_eq : ∀ (l : List ME) (i : Nat), nthM l i = l[i]?
  | [], i => by simp [nthM]
  | a :: l, 0 => rfl
  | a :: l, i + 1 => by show nthM l i = _; rw [nthM_eq l i]; simp

theorem RM_set : ∀ {es : List ME} {xs : List MapEntry} {i : Nat} {e : ME} (f : MapEntry → MapEntry), RM ρ j es xs → (∀ x, xs[i]? = some x → R ρ j e.key (f x).key ∧ R ρ j e.val (f x).val ∧ (f x).born = e.born) → RM ρ j (setNth es i e) (xs.modify i f)
  | [], xs, i, e, f, h, _ => by have e : xs = [] := h; subst e; simp [setNth, RM]
  | a :: es, _, 0, e, f, h, hf => by
    obtain ⟨x, xs, rfl, h1, h2, h3, h4⟩ := h
    obtain ⟨g1, g2, g3⟩ := hf x rfl
    exact ⟨f x, xs, by simp [List.modify_cons], g1, g2, g3, h4⟩
  | a :: es, _, i + 1, e, f, h, hf => by
    obtain ⟨x, xs, rfl, h1, h2, h3, h4⟩ := h
    have ih := RM_set f h4 (i := i) (e := e) (fun y hy => hf y (by simpa using hy))
    exact ⟨x, xs.modify i f, by simp [List.modify_cons], h1, h2, h3, ih⟩
theorem RM_snoc : ∀ {es : List ME} {xs : List MapEntry} {e : ME} {x : MapEntry}, RM ρ j es xs → R ρ j e.key x.key → R ρ j e.val x.val → x.born = e.born → RM ρ j (es ++ [e]) (xs ++ [x])
  | [], xs, e, x, h, h1, h2, h3 => by have e : xs = [] := h; subst e; exact ⟨x, [], rfl, h1, h2, h3, rfl⟩
  | a :: es, _, e, x, h, h1, h2, h3 => by
    obtain ⟨y, xs, rfl, g1, g2, g3, g4⟩ := h
    exact ⟨y, _, rfl, g1, g2, g3, RM_snoc g4 h1 h2 h3⟩
theorem RM_drop : ∀ {es : List ME} {xs : List MapEntry} {i : Nat}, RM ρ j es xs → RM ρ j (dropNth es i) (xs.eraseIdx i)
  | [], xs, i, h => by have e : xs = [] := h; subst e; simp [dropNth, RM]
  | a :: es, _, 0, h => by obtain ⟨x, xs, rfl, h1, h2, h3, h4⟩ := h; simpa [dropNth] using h4
  | a :: es, _, i + 1, h => by
    obtain ⟨x, xs, rfl, h1, h2, h3, h4⟩ := h
    exact ⟨x, xs.eraseIdx i, by simp, h1, h2, h3, RM_drop h4⟩

theorem RM_born : ∀ {es : List ME} {xs : List MapEntry} {i : Nat} {e : ME} {x : MapEntry}, RM ρ j es xs → es[i]? = some e → xs[i]? = some x → x.born = e.born
  | [], _, i, e, x, _, h, _ => by simp at h
  | a :: es, _, 0, e, x, hr, h, h' => by obtain ⟨y, ys, rfl, _, _, b3, _⟩ := hr; simp at h h'; subst h h'; exact b3
  | a :: es, _, i + 1, e, x, hr, h, h' => by obtain ⟨y, ys, rfl, _, _, _, b4⟩ := hr; exact RM_born b4 (by simpa using h) (by simpa using h')

/-- Storing into a map. -/
theorem mapSet_run (hi : Inv ρ w0 j H w) {t : TypeId} {m q x : AV} {um uq ux : Value} {H' : Heap} (hm : R ρ j m um) (hq : R ρ j q uq) (hx : R ρ j x ux) (h : mapSetA P H t m q x = some H') :
    ∃ w', (Instr.mapUpdate t um uq ux).run P w = .ok () w' ∧ Inv ρ w0 j H' w' ∧ St j H j H' := by
  unfold mapSetA at h
  split at h
  · cases h
  · rename_i kd et hmo
    obtain ⟨kt, hu, hkt, hkd⟩ := mapOf_eq hmo
    split at h
    case h_2 => cases h
    rename_i n
    split at h
    case h_2 => cases h
    rename_i es clock hkey hma
    obtain ⟨L, hj, rfl⟩ := hm
    obtain ⟨arr, h1, h2⟩ := hi.mapAt hj hma
    split at h
    · cases h
    · rename_i i v' hf
      obtain ⟨r', h3, v2, rfl, _, _, e', x', h4, h5, _, _, h6⟩ := findA_sound hq h2 hf
      split at h
      · cases h
      · rename_i e hn
        rw [nthM_eq] at hn
        rw [Nat.sub_zero] at h4 h5
        rw [h4] at hn; cases hn
        split at h
        case h_2 => cases h
        rename_i hb
        have hb := AV.beq_eq hb
        cases h
        rw [hb] at h6
        obtain ⟨hfun, hbits⟩ := R_key_fun hkey h6 hq
        have h5' : arr[i]? = some x' := by simpa using h5
        obtain ⟨w', g1, g2, g3⟩ := hi.mapped (es' := setNth es i ⟨q, x, e'.born⟩) (c' := clock) (arr' := arr.modify i fun y => { y with key := uq, val := ux }) hj hma
          (by
            rw [Array.toList_modify]
            exact RM_set _ h2 (fun y hy => ⟨hq, hx, by
              rw [h5] at hy; cases hy
              exact (RM_born h2 h4 h5 : x'.born = e'.born)⟩)) P
        refine ⟨w', ?_, g2, g3⟩
        unfold Instr.mapUpdate
        simp only [Sem.run_bind, run_underlying hu, Result.andThen_ok, run_getObj_map P h1, run_checkKey hkt hkd, run_findKey hkt h3]
        have hks : (Instr.keyThatStays (((arr[i]?).map (·.key)).getD uq) uq).run P w = .ok uq w := by
          rw [h5']
          rw [hfun] at hbits
          simp only [Option.map_some, Option.getD_some, Instr.keyThatStays, hfun, hbits, if_true, Sem.run_pure]
        rw [hks]
        exact g1
    · rename_i hf
      cases h
      obtain ⟨r', h3, rfl⟩ := findA_sound hq h2 hf
      obtain ⟨w', g1, g2, g3⟩ := hi.mapped (es' := es ++ [⟨q, x, clock⟩]) (c' := clock + 1) (arr' := arr.push { key := uq, val := ux, born := clock }) hj hma
        (by rw [Array.toList_push]; exact RM_snoc h2 hq hx rfl) P
      refine ⟨w', ?_, g2, g3⟩
      unfold Instr.mapUpdate
      simp only [Sem.run_bind, run_underlying hu, Result.andThen_ok, run_getObj_map P h1, run_checkKey hkt hkd, run_findKey hkt h3]
      exact g1

theorem mapSet_ok (hi : Inv ρ w0 j H w) (he : ER ρ j N env a) {t : TypeId} {xm xk xv : Operand} (ho : o.op = .mapUpdate t xm xk xv ∨ o.op = .insert t xm xk xv) (h : Ob.den ρ (dMapSet P t xm xk xv env H k)) : OpOk P ρ w0 j H w a o k Q := by
  unfold dMapSet at h
  split at h
  case h_2 => exact h.elim
  rename_i m q x hm hq hx
  cases hs : mapSetA P H t m q x with
  | none => rw [hs] at h; exact h.elim
  | some H' =>
    rw [hs] at h
    obtain ⟨w', h1, h2, h3⟩ := mapSet_run hi (opd_sound he hm) (opd_sound he hq) (opd_sound he hx) hs
    refine .skip (w' := w') ?_ ⟨undefA, H', j, R_undef, h2, h3, h⟩
    rcases ho with ho | ho <;> simp only [execOp, ho, Sem.run_bind, h1, Result.andThen_ok, Sem.run_pure]

theorem mapEntry_ok (hi : Inv ρ w0 j H w) (he : ER ρ j N env a) {t : TypeId} {xm xk : Operand} (ho : o.op = .mapEntry t xm xk) (h : Ob.den ρ (dMapEntry P t xm xk env H k)) : OpOk P ρ w0 j H w a o k Q := by
  unfold dMapEntry at h
  split at h
  case h_2 => exact h.elim
  rename_i m q hm0 hq0
  have hm := opd_sound he hm0
  have hq := opd_sound he hq0
  unfold mapEntryA at h
  split at h
  · exact h.elim
  · rename_i kd et hmo
    obtain ⟨kt, hu, hkt, hkd⟩ := mapOf_eq hmo
    split at h
    case h_2 => exact h.elim
    rename_i n
    split at h
    case h_2 => exact h.elim
    rename_i es clock hkey hma
    obtain ⟨L, hj, hum⟩ := hm
    obtain ⟨arr, h1, h2⟩ := hi.mapAt hj hma
    split at h
    · exact h.elim
    · rename_i i v' hf
      obtain ⟨r', h3, v2, rfl, hv2, _, e', x', h4, h5, hev, hxv, h6⟩ := findA_sound hq h2 hf
      split at h
      · exact h.elim
      · rename_i e hn
        rw [nthM_eq] at hn
        rw [Nat.sub_zero] at h4 h5
        rw [h4] at hn; cases hn
        split at h
        case h_2 => exact h.elim
        rename_i hb
        have hb := AV.beq_eq hb
        rw [hb] at h6
        obtain ⟨hfun, hbits⟩ := R_key_fun hkey h6 hq
        rw [hfun] at hbits
        have h5' : arr[i]? = some x' := by simpa using h5
        have hsame : (arr.modify i fun y => { y with key := a.eval xk }) = arr := by
          apply Array.ext_getElem?
          intro z
          rw [Array.getElem?_modify]
          by_cases hz : i = z
          · subst hz
            rw [if_pos rfl, h5', Option.map_some]
            congr 1
            rw [← hfun]
          · rw [if_neg hz]
        have hset : w.heap.setIfInBounds L.blk (.map arr clock) = w.heap := by
          apply Array.ext_getElem?
          intro z
          rw [Array.getElem?_setIfInBounds]
          by_cases hz : L.blk = z
          · subst hz
            have hlt : L.blk < w.heap.size := hi.blk n L hj
            rw [if_pos rfl, if_pos hlt, h1]
          · rw [if_neg hz]
        have hborn : x'.born = e'.born := RM_born h2 h4 h5
        refine .value (u := .tuple #[v2, goInt x'.born]) (w' := w) ?_ ⟨.tup [v', .int .i64 (.lit (.ofNat e'.born))], H, j, ⟨_, rfl, .two hv2 (by rw [hborn]; rfl)⟩, hi, St.refl j H, h⟩
        have hks : (Instr.keyThatStays (((arr[i]?).map (·.key)).getD (a.eval xk)) (a.eval xk)).run P w = .ok (a.eval xk) w := by
          rw [h5']
          simp only [Option.map_some, Option.getD_some, Instr.keyThatStays, hfun, hbits, if_true, Sem.run_pure]
        simp only [execOp, ho, hum, Instr.mapEntry, Sem.run_bind, run_underlying hu, Result.andThen_ok, run_getObj_map P h1, run_checkKey hkt hkd, run_findKey hkt h3, hks, hsame, run_setObj_map P h1 rfl, hset, Sem.run_pure]
        rw [h5']
        rfl
    · rename_i hf
      obtain ⟨r', h3, rfl⟩ := findA_sound hq h2 hf
      split at h
      · exact h.elim
      · rename_i z hz
        obtain ⟨z', hz1, hz2, _⟩ := zeroA_sound (ρ := ρ) (j := j) hz
        obtain ⟨w', g1, g2, g3⟩ := hi.mapped (es' := es ++ [⟨q, z, clock⟩]) (c' := clock + 1) (arr' := arr.push { key := a.eval xk, val := z', born := clock }) hj hma
          (by rw [Array.toList_push]; exact RM_snoc h2 hq hz2 rfl) P
        refine .value (u := .tuple #[z', goInt clock]) (w' := w') ?_ ⟨.tup [z, .int .i64 (.lit (.ofNat clock))], _, j, ⟨_, rfl, .two hz2 rfl⟩, g2, g3, h⟩
        simp only [execOp, ho, hum, Instr.mapEntry, Sem.run_bind, run_underlying hu, Result.andThen_ok, run_getObj_map P h1, run_checkKey hkt hkd, run_findKey hkt h3, hz1, g1, Sem.run_pure]

theorem setBorn_sound : ∀ {es l : List ME} {xs : List MapEntry} {b : Nat} {x : AV} {ux : Value}, RM ρ j es xs → R ρ j x ux → setBorn b x es = some l →
    ∃ i, xs.findIdx? (fun e => (e.born : Int) == (b : Int)) = some i ∧ RM ρ j l (xs.modify i fun e => { e with val := ux })
  | [], _, _, _, _, _, _, _, h => by cases h
  | e :: es, l, _, b, x, ux, hr, hx, h => by
    obtain ⟨y, ys, rfl, h1, h2, h3, h4⟩ := hr
    unfold setBorn at h
    split at h
    · rename_i hb
      have hb := natBeq hb
      cases h
      refine ⟨0, by simp [List.findIdx?_cons, h3, hb], ?_⟩
      rw [List.modify_cons]
      exact ⟨_, ys, rfl, h1, hx, h3, h4⟩
    · rename_i hb
      split at h
      · rename_i m hm
        cases h
        obtain ⟨i, h5, h6⟩ := setBorn_sound h4 hx hm
        have hne : e.born ≠ b := fun hh => by rw [hh, Nat.beq_refl] at hb; cases hb
        refine ⟨i + 1, ?_, ?_⟩
        · rw [List.findIdx?_cons, h5]
          have : ((y.born : Int) == (b : Int)) = false := by simp; omega
          simp [this]
        · rw [List.modify_cons]
          exact ⟨y, _, rfl, h1, h2, h3, by simpa using h6⟩
      · cases h

theorem entryStore_ok (hi : Inv ρ w0 j H w) (he : ER ρ j N env a) {t : TypeId} {xm xs xv : Operand} (ho : o.op = .entryStore t xm xs xv) (h : Ob.den ρ (dEntryStore t xm xs xv env H k)) : OpOk P ρ w0 j H w a o k Q := by
  unfold dEntryStore at h
  split at h
  case h_2 => exact h.elim
  rename_i m q x hm0 hq0 hx0
  have hm := opd_sound he hm0
  have hq := opd_sound he hq0
  have hx := opd_sound he hx0
  unfold entryStoreA at h
  split at h
  case h_2 => exact h.elim
  rename_i n kk b
  simp only [R, SE.den] at hq
  obtain ⟨L, hj, hum⟩ := hm
  split at h
  · exact h.elim
  · rename_i es clock hma
    obtain ⟨arr, h1, h2⟩ := hi.mapAt hj hma
    split at h
    case h_2 => exact h.elim
    rename_i l hl
    obtain ⟨i, h3, h4⟩ := setBorn_sound h2 hx hl
    obtain ⟨w', g1, g2, g3⟩ := hi.mapped (es' := l) (c' := clock) (arr' := arr.modify i fun e => { e with val := a.eval xv }) hj hma (by rw [Array.toList_modify]; exact h4) P
    have h3' : arr.findIdx? (fun e => (e.born : Int) == (b : Int)) = some i := by rw [← List.findIdx?_toArray, Array.toArray_toList] at h3; exact h3
    refine .skip (w' := w') ?_ ⟨undefA, _, j, R_undef, g2, g3, h⟩
    simp only [execOp, ho, hum, hq, Instr.entryStore, Sem.run_bind, run_getObj_map P h1, Result.andThen_ok, asInt, asIntOf, Sem.run_pure]
    have h3'' : arr.findIdx? (fun e => (e.born : Int) == Int.ofNat b) = some i := h3'
    rw [h3'']
    simp only [g1, Result.andThen_ok]

/-! ### The builtins that change the heap -/
theorem args_of (he : ER ρ j N env a) {c : Call} {vs : List AV} (h : opds env c.args.toList = some vs) : RL ρ j vs (c.args.map a.eval).toList := by
  rw [Array.toList_map]; exact opds_sound he h
theorem args_two' (he : ER ρ j N env a) {c : Call} {x y : AV} (h : opds env c.args.toList = some [x, y]) : ∃ u v, c.args.map a.eval = #[u, v] ∧ R ρ j x u ∧ R ρ j y v := by
  obtain ⟨u, m, e1, h1, h2⟩ := args_of he h
  obtain ⟨v, m', e2, h3, h4⟩ := h2
  have e3 : m' = [] := h4
  subst e3 e2
  exact ⟨u, v, Array.ext' (by rw [e1]), h1, h3⟩
theorem args_one' (he : ER ρ j N env a) {c : Call} {x : AV} (h : opds env c.args.toList = some [x]) : ∃ u, c.args.map a.eval = #[u] ∧ R ρ j x u := by
  obtain ⟨u, m, e1, h1, h2⟩ := args_of he h
  have e3 : m = [] := h2
  subst e3
  exact ⟨u, Array.ext' (by rw [e1]), h1⟩

theorem run_call_builtin' {c : Call} {b : Builtin} {u : Value} {w' : World} (ho : o.op = .call c) (hc : c.callee = .builtin b) {f : Array TypeId → TypeId → Array Value → Sem Value}
    (hb : ∀ ats ty cs args, builtin b ats ty cs args = (do pure (.value (← f ats ty args)))) (h : (f c.argTypes o.type (c.args.map a.eval)).run P w = .ok u w') : (execOp a.eval o).run P w = .ok (.value u) w' := by
  simp only [execOp, ho, resolve, hc, Sem.run_bind, Sem.run_pure, Result.andThen_ok, invoke, hb, h]

theorem set_same {r : Nat} {ob : Go.Obj} (h : w.heap[r]? = some ob) : w.heap.setIfInBounds r ob = w.heap := by
  apply Array.ext_getElem?
  intro z
  rw [Array.getElem?_setIfInBounds]
  by_cases hz : r = z
  · subst hz
    have hlt : r < w.heap.size := by
      rcases Nat.lt_or_ge r w.heap.size with h' | h'
      · exact h'
      · rw [Array.getElem?_eq_none h'] at h; cases h
    rw [if_pos rfl, if_pos hlt, h]
  · rw [if_neg hz]

theorem delete_ok (hi : Inv ρ w0 j H w) (he : ER ρ j N env a) {c : Call} (ho : o.op = .call c) (hc : c.callee = .builtin .delete) (h : Ob.den ρ (dDelete P c.argTypes.toList c.args.toList env H k)) : OpOk P ρ w0 j H w a o k Q := by
  unfold dDelete at h
  split at h
  case h_2 => exact h.elim
  rename_i t rest m q hts hargs
  have ht := argTypes_cons hts
  obtain ⟨um, uq, hargs', hm, hq⟩ := args_two' he hargs
  cases hd : mapDelA P H t m q with
  | none => rw [hd] at h; exact h.elim
  | some H' =>
    rw [hd] at h
    suffices hs : ∃ w', (Builtin.delete_ c.argTypes o.type #[um, uq]).run P w = .ok (.tuple #[]) w' ∧ Inv ρ w0 j H' w' ∧ St j H j H' by
      obtain ⟨w', h1, h2, h3⟩ := hs
      exact .value (run_call_builtin' ho hc (fun _ _ _ _ => rfl) (by rw [hargs']; exact h1)) ⟨undefA, H', j, R_undef, h2, h3, h⟩
    unfold mapDelA at hd
    split at hd
    · cases hd
    · rename_i kd et hmo
      obtain ⟨kt, hu, hkt, hkd⟩ := mapOf_eq hmo
      split at hd
      · cases hd
      · split at hd
        · cases hd
          simp only [R] at hm; subst hm
          refine ⟨w, ?_, hi, St.refl j H⟩
          unfold Builtin.delete_
          simp only [ht, List.getElem?_toArray, List.getElem?_cons_zero, List.getElem?_cons_succ, Sem.run_bind, run_underlying hu, Result.andThen_ok, run_checkKey hkt hkd, Sem.run_pure]
        · rename_i n
          split at hd
          · cases hd
          · rename_i es clock hma
            obtain ⟨L, hj, rfl⟩ := hm
            obtain ⟨arr, h1, h2⟩ := hi.mapAt hj hma
            split at hd
            · cases hd
            · rename_i i v' hf
              cases hd
              obtain ⟨r', h3, v2, rfl, _, _, _⟩ := findA_sound hq h2 hf
              obtain ⟨w', g1, g2, g3⟩ := hi.mapped (es' := dropNth es i) (c' := clock) (arr' := arr.eraseIdxIfInBounds i) hj hma
                (by
                  have : (arr.eraseIdxIfInBounds i).toList = arr.toList.eraseIdx i := by
                    unfold Array.eraseIdxIfInBounds
                    split
                    · simp
                    · rw [List.eraseIdx_of_length_le]; simp; omega
                  rw [this]; exact RM_drop h2) P
              refine ⟨w', ?_, g2, g3⟩
              unfold Builtin.delete_
              simp only [ht, List.getElem?_toArray, List.getElem?_cons_zero, List.getElem?_cons_succ, Sem.run_bind, run_underlying hu, Result.andThen_ok, run_getObj_map P h1, run_checkKey hkt hkd, run_findKey hkt h3, g1, Sem.run_pure]
            · rename_i hf
              cases hd
              obtain ⟨r', h3, rfl⟩ := findA_sound hq h2 hf
              refine ⟨w, ?_, hi, St.refl j H⟩
              unfold Builtin.delete_
              simp only [ht, List.getElem?_toArray, List.getElem?_cons_zero, List.getElem?_cons_succ, Sem.run_bind, run_underlying hu, Result.andThen_ok, run_getObj_map P h1, run_checkKey hkt hkd, run_findKey hkt h3, run_setObj_map P h1 rfl, set_same h1, Sem.run_pure]
        · cases hd

theorem clear_ok (hi : Inv ρ w0 j H w) (he : ER ρ j N env a) {c : Call} (ho : o.op = .call c) (hc : c.callee = .builtin .clear) (h : Ob.den ρ (dClear P c.argTypes.toList c.args.toList env H k)) : OpOk P ρ w0 j H w a o k Q := by
  unfold dClear at h
  split at h
  case h_2 => exact h.elim
  rename_i t rest x hts hargs
  have ht := argTypes_cons hts
  obtain ⟨um, hargs', hm⟩ := args_one' he hargs
  cases hd : clearA P H t x with
  | none => rw [hd] at h; exact h.elim
  | some H' =>
    rw [hd] at h
    suffices hs : ∃ w', (Builtin.clear_ c.argTypes o.type #[um]).run P w = .ok (.tuple #[]) w' ∧ Inv ρ w0 j H' w' ∧ St j H j H' by
      obtain ⟨w', h1, h2, h3⟩ := hs
      exact .value (run_call_builtin' ho hc (fun _ _ _ _ => rfl) (by rw [hargs']; exact h1)) ⟨undefA, H', j, R_undef, h2, h3, h⟩
    unfold clearA at hd
    split at hd
    · cases hd
    · rename_i q hmo
      obtain ⟨kd, et⟩ := q
      obtain ⟨kt, hu, hkt, hkd⟩ := mapOf_eq hmo
      split at hd
      · cases hd
        simp only [R] at hm; subst hm
        refine ⟨w, ?_, hi, St.refl j H⟩
        unfold Builtin.clear_
        simp only [ht, List.getElem?_toArray, List.getElem?_cons_zero, Sem.run_bind, run_underlying hu, Result.andThen_ok, Sem.run_pure]
      · rename_i n
        split at hd
        · rename_i es clock hma
          cases hd
          obtain ⟨L, hj, rfl⟩ := hm
          obtain ⟨arr, h1, h2⟩ := hi.mapAt hj hma
          obtain ⟨w', g1, g2, g3⟩ := hi.mapped (es' := []) (c' := clock) (arr' := #[]) hj hma rfl P
          refine ⟨w', ?_, g2, g3⟩
          unfold Builtin.clear_
          simp only [ht, List.getElem?_toArray, List.getElem?_cons_zero, Sem.run_bind, run_underlying hu, Result.andThen_ok, run_getObj_map P h1, g1, Sem.run_pure]
        · cases hd
      · cases hd

theorem isSl_sound {x : AV} {u : Value} (hx : R ρ j x u) (h : isSl x = true) : ∃ b n c, u = .slice b n c := by
  cases x <;> simp only [isSl] at h <;> try (cases h; done)
  case nils => exact ⟨_, _, _, hx⟩
  case sl => obtain ⟨L, _, _, hu⟩ := hx; exact ⟨_, _, _, hu⟩
  case emp => obtain ⟨p, c, hu⟩ := hx; exact ⟨_, _, _, hu⟩

theorem run_firstCells_zero {sz : Nat} {u : Value} (h : (∃ b n c, u = .slice b n c) ∨ ∃ s, u = .string s) : (Builtin.firstCells sz 0 u).run P w = .ok #[] w := by
  rcases h with ⟨b, n, c, rfl⟩ | ⟨s, rfl⟩
  · cases b with
    | none => rfl
    | some p => simp [Builtin.firstCells, loadCells, loadCellsFrom]
  · simp [Builtin.firstCells]

theorem copy_ok (hi : Inv ρ w0 j H w) (he : ER ρ j N env a) {c : Call} (ho : o.op = .call c) (hc : c.callee = .builtin .copy) (h : Ob.den ρ (dCopy P c.argTypes.toList c.args.toList env H k)) : OpOk P ρ w0 j H w a o k Q := by
  unfold dCopy at h
  split at h
  case h_2 => exact h.elim
  rename_i t rest d s hts hargs
  have ht := argTypes_cons hts
  obtain ⟨ud, us, hargs', hd, hs⟩ := args_two' he hargs
  cases hcp : copyA P H t d s with
  | none => rw [hcp] at h; exact h.elim
  | some q =>
    obtain ⟨v, H'⟩ := q
    rw [hcp] at h
    suffices hs : ∃ u w', (Builtin.copy_ c.argTypes o.type #[ud, us]).run P w = .ok u w' ∧ R ρ j v u ∧ Inv ρ w0 j H' w' ∧ St j H j H' by
      obtain ⟨u, w', h1, h2, h3, h4⟩ := hs
      exact .value (run_call_builtin' ho hc (fun _ _ _ _ => rfl) (by rw [hargs']; exact h1)) ⟨v, H', j, h2, h3, h4, h⟩
    unfold copyA at hcp
    split at hcp
    case h_2 => cases hcp
    rename_i sz n m hsz hn hm
    obtain ⟨e, hu, hs'⟩ := elemSz_eq hsz
    obtain ⟨hlen, hkind⟩ := lenA_sound (P := P) (w := w) hs hm
    have hmin : minN m n = Nat.min m n := by
      unfold minN
      cases hb : Nat.ble m n with
      | true => have := Nat.le_of_ble_eq_true hb; simp [Nat.min_def, this]
      | false =>
        have : ¬ m ≤ n := fun hh => by rw [Nat.ble_eq_true_of_le hh] at hb; cases hb
        simp [Nat.min_def, this]
    rw [hmin] at hcp
    have hkind' : (∃ b n c, us = .slice b n c) ∨ ∃ s, us = .string s := by
      rcases hkind with ⟨b, c, e⟩ | ⟨s, e, _⟩
      · exact .inl ⟨b, _, c, e⟩
      · exact .inr ⟨s, e⟩
    unfold copyFrom at hcp
    split at hcp
    · rename_i hz
      split at hcp
      · rename_i hsl
        cases hcp
        obtain ⟨b, nd, cd, rfl⟩ := isSl_sound hd hsl
        obtain ⟨_, hnd⟩ := lenA_sound (P := P) (w := w) hd hn
        have hnd : nd = n := by
          rcases hnd with ⟨b', c', e⟩ | ⟨s', e, _⟩
          · cases e; rfl
          · cases e
        subst hnd
        refine ⟨goInt 0, w, ?_, rfl, hi, St.refl j H⟩
        unfold Builtin.copy_
        simp only [ht, List.getElem?_toArray, List.getElem?_cons_zero, List.getElem?_cons_succ, Sem.run_bind, run_underlying hu, Result.andThen_ok, hlen, run_sizeOf hs', hz, run_firstCells_zero hkind']
        cases b <;> rfl
      · cases hcp
    · rename_i cc hz
      split at hcp
      case h_2 => cases hcp
      rename_i l b off len cap hl
      split at hcp
      case h_2 => cases hcp
      rename_i H2 hst
      cases hcp
      obtain ⟨L, hj, hck, rfl⟩ := hd
      have hnn : len = n := by simp only [lenA] at hn; exact Option.some.inj hn
      subst hnn
      obtain ⟨xs, h1, h2⟩ := cellsA_sound (P := P) hi hs hl
      obtain ⟨w', h3, h4, h5⟩ := hi.store hst hj h2 P
      refine ⟨goInt (Nat.succ cc), w', ?_, rfl, h4, h5⟩
      unfold Builtin.copy_
      simp only [ht, List.getElem?_toArray, List.getElem?_cons_zero, List.getElem?_cons_succ, Sem.run_bind, run_underlying hu, Result.andThen_ok, hlen, run_sizeOf hs', hz]
      have h1 : (Builtin.firstCells sz (cc + 1) us).run P w = .ok xs.toArray w := h1
      rw [h1]
      simp only [Result.andThen_ok, Sem.run_bind, List.toList_toArray, h3, Sem.run_pure]

end
end Go.Dw
