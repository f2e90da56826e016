/-
  DwHeavy: the operations that make blocks, and those that change the heap.
-/
import Derived.Test.YtfpklobgecgnpaaGreatDwLight
namespace Go.Dw
set_option linter.unusedSimpArgs false
set_option linter.unusedVariables false

section
variable {P : Program} {ρ : Val} {w0 : World} {j : J} {H : Heap} {w : World} {N : Nat} {env : T AV} {a : Act} {o : Oper}

/-! ### New blocks -/
/-- What is to be shown of an operation that makes a block: named nx. -/
def AS (P : Program) (ρ : Val) (j : J) (w : World) (a : Act) (o : Oper) (nx : Nat) (v : AV) (ob : Obj) : Prop :=
  ∃ u obj, (execOp a.eval o).run P w = .ok (.value u) { w with heap := w.heap.push obj } ∧ NewR ρ j ob obj 0 ∧ R ρ (jset j nx ⟨w.heap.size, 0, 0⟩) v u

def ownGrp (nx : Nat) : Obj → Prop
  | .cells _ _ g _ _ _ => g = nx
  | _ => True

theorem newCells_R {l : List AV} {xs : List Value} {s nx : Nat} {e : TypeId} (h : RL ρ j l xs) : NewR ρ j (newCells l s nx) (.cells xs.toArray e (0, 0)) 0 := by
  refine ⟨rfl, rfl, xs.toArray, e, rfl, ?_, ⟨by simp, fun hh => by cases hh⟩, fun i hi => ?_⟩
  · rw [Vec.n_ofList]; simp [h.length]
  · rw [Vec.n_ofList] at hi
    rw [Vec.get_ofList l i hi]
    obtain ⟨x, h1, h2⟩ := h.get i _ (List.getElem?_eq_getElem hi)
    exact ⟨x, by simpa using h1, h2⟩

theorem newVar_run (t : TypeId) (u : Value) : (newVar t u).run P w = .ok ⟨w.heap.size, 0, none⟩ { w with heap := w.heap.push (.cells u.cells t (0, 0)) } := rfl

theorem aAlloc_sound {t : TypeId} {nx : Nat} {v : AV} {ob : Obj} (ho : o.op = .alloc t) (h : aAlloc P t nx = some (v, ob)) : AS P ρ j w a o nx v ob ∧ ownGrp nx ob := by
  unfold aAlloc at h
  split at h
  · rename_i z s hz hs
    cases h
    obtain ⟨z', h1, h2, _⟩ := zeroA_sound (ρ := ρ) (j := j) hz
    refine ⟨⟨.pointer (some ⟨w.heap.size, 0, none⟩), _, ?_, newCells_R (e := t) (RL_cells h2), _, jset_same _ _ _, rfl⟩, rfl⟩
    simp only [execOp, ho, Instr.alloc, Sem.run_bind, h1, Result.andThen_ok, newVar_run, Sem.run_pure, Array.toArray_toList]
  · cases h

theorem aBox_sound (he : ER ρ j N env a) {t : TypeId} {x : Operand} {nx : Nat} {v : AV} {ob : Obj} (ho : o.op = .box t x) (h : aBox P t x env nx = some (v, ob)) : AS P ρ j w a o nx v ob ∧ ownGrp nx ob := by
  unfold aBox at h
  split at h
  · rename_i u s hx hs
    cases h
    have h2 := opd_sound he hx
    refine ⟨⟨.pointer (some ⟨w.heap.size, 0, none⟩), _, ?_, newCells_R (e := t) (RL_cells h2), _, jset_same _ _ _, rfl⟩, rfl⟩
    simp only [execOp, ho, Instr.box, Sem.run_bind, newVar_run, Result.andThen_ok, Sem.run_pure, Array.toArray_toList]
  · cases h

theorem length_repL : ∀ (n : Nat) (l : List AV), (repL n l).length = n * l.length
  | 0, l => by simp [repL]
  | n + 1, l => by unfold repL; rw [List.length_append, length_repL n l, Nat.succ_mul]; omega
theorem getElem_repL : ∀ (n : Nat) (l : List AV) (i : Nat), i < n * l.length → (repL n l)[i]? = l[i % l.length]?
  | 0, l, i, h => by simp at h
  | n + 1, l, i, h => by
    unfold repL
    by_cases hi : i < l.length
    · rw [List.getElem?_append_left hi, Nat.mod_eq_of_lt hi]
    · rw [List.getElem?_append_right (by omega), getElem_repL n l (i - l.length) (by rw [Nat.succ_mul] at h; omega)]
      congr 1
      rw [← Nat.mod_eq_sub_mod (by omega)]

/-- A row of zeros as the model makes it. -/
theorem zeros_get {z : AV} {u : Value} {n i : Nat} (hz : R ρ j z u) (hi : i < n) (hpos : 0 < z.cells.length) :
    ∃ x c, ((Array.range n).map (u.cells[· % u.cells.size]!))[i]? = some x ∧ z.cells[i % z.cells.length]? = some c ∧ R ρ j c x := by
  have hr := RL_cells hz
  have hlen := hr.length
  rw [Array.length_toList] at hlen
  have hlt : i % z.cells.length < z.cells.length := Nat.mod_lt _ hpos
  obtain ⟨x, h1, h2⟩ := hr.get _ _ (List.getElem?_eq_getElem hlt)
  refine ⟨x, _, ?_, List.getElem?_eq_getElem hlt, h2⟩
  rw [Array.getElem?_map, Array.getElem?_range, if_pos hi, Option.map_some]
  congr 1
  rw [hlen]
  have h1 : u.cells[i % z.cells.length]? = some x := by simpa using h1
  rw [getElem!_def, h1]

theorem repL_R {z : AV} {u : Value} {n : Nat} (hz : R ρ j z u) : RL ρ j (repL n z.cells) ((Array.range (n * z.cells.length)).map (u.cells[· % u.cells.size]!)).toList := by
  refine RL.of_get (by simp [length_repL]) fun i c hc => ?_
  have hi : i < n * z.cells.length := by
    rcases Nat.lt_or_ge i (n * z.cells.length) with h | h
    · exact h
    · rw [List.getElem?_eq_none (by rw [length_repL]; exact h)] at hc; cases hc
  have hpos : 0 < z.cells.length := by
    rcases Nat.eq_zero_or_pos z.cells.length with h | h
    · rw [h] at hi; simp at hi
    · exact h
  rw [getElem_repL n z.cells i hi] at hc
  obtain ⟨x, c', h1, h2, h3⟩ := zeros_get (n := n * z.cells.length) hz hi hpos
  rw [h2] at hc; cases hc
  exact ⟨x, by rw [Array.getElem?_toList]; exact h1, h3⟩

theorem aBuildSlice_sound (he : ER ρ j N env a) {t : TypeId} {len nx : Nat} {parts : Array (Nat × Operand)} {v : AV} {ob : Obj} (ho : o.op = .buildSlice t len parts) (h : aBuildSlice P t len parts env nx = some (v, ob)) : AS P ρ j w a o nx v ob ∧ ownGrp nx ob := by
  unfold aBuildSlice at h
  split at h
  case h_2 => cases h
  rename_i e hu
  split at h
  case h_2 => cases h
  rename_i s z ps hs hz hps
  split at h
  case h_2 => cases h
  rename_i hle hb
  have hle : len * s ≤ 16777216 := Nat.le_of_ble_eq_true hle
  have hb := natBeq hb
  split at h
  case h_2 => cases h
  rename_i l hl
  cases h
  obtain ⟨z', hz1, hz2, _⟩ := zeroA_sound (ρ := ρ) (j := j) hz
  obtain ⟨qs, hq1, hq2, hq3⟩ := partsOf_sound he hps
  have hparts : (parts.map fun (i, x) => (i, a.eval x)).toList = qs := by rw [Array.toList_map]; exact hq1
  have hrep := repL_R (n := len) hz2
  rw [hb] at hrep
  obtain ⟨B, h1, h2⟩ := fillA_sound (place' := fun i => some (i * s, s)) (fun i x hx => hx) hq2 hq3 hrep hl
  refine ⟨⟨.slice (some ⟨w.heap.size, 0, none⟩) len len, .cells B e (0, 0), ?_, ?_, _, jset_same _ _ _, Nat.le_refl _, rfl⟩, rfl⟩
  · simp only [execOp, ho, Instr.buildSlice, Sem.run_bind, run_underlying hu, Result.andThen_ok, run_sizeOf hs]
    rw [if_neg (by omega)]
    by_cases h0 : len * s = 0
    · have e1 : ((Array.range (len * s)).map ((#[] : Array Value)[· % (#[] : Array Value).size]!)) = ((Array.range (len * s)).map (z'.cells[· % z'.cells.size]!)) := by simp [h0]
      rw [if_pos h0]
      simp only [Sem.run_bind, Sem.run_pure, Result.andThen_ok, e1, hparts, h1]
      rfl
    · rw [if_neg h0]
      simp only [Sem.run_bind, Sem.run_pure, Result.andThen_ok, hz1, hparts, h1]
      rfl
  · have := newCells_R (s := s) (nx := nx) (e := e) h2
    simpa using this

theorem aMakeMap_sound (he : ER ρ j N env a) {t : TypeId} {r : Option Operand} {nx : Nat} {v : AV} {ob : Obj} (ho : o.op = .makeMap t r) (h : aMakeMap P t r env nx = some (v, ob)) : AS P ρ j w a o nx v ob ∧ ownGrp nx ob := by
  unfold aMakeMap at h
  split at h
  · cases h
    refine ⟨⟨.map (some w.heap.size), .map #[] 0, ?_, ⟨rfl, #[], rfl, rfl⟩, _, jset_same _ _ _, rfl⟩, trivial⟩
    simp only [execOp, ho, Instr.makeMap, Option.map_none, Sem.run_bind, run_newObj, Result.andThen_ok, Sem.run_pure]
  · split at h
    · rename_i r' kt et n hu hn
      cases h
      obtain ⟨k, hk⟩ := natA_sound he hn
      refine ⟨⟨.map (some w.heap.size), .map #[] 0, ?_, ⟨rfl, #[], rfl, rfl⟩, _, jset_same _ _ _, rfl⟩, trivial⟩
      simp only [execOp, ho, Instr.makeMap, Option.map_some, hk, Sem.run_bind, run_underlying hu, asInt, asIntOf, run_newObj, Result.andThen_ok, Sem.run_pure]
    · cases h

theorem uniform_eq : ∀ {l : List AV} {u : AV}, uniform l = some u → ∀ c ∈ l, c = u := by
  intro l u h
  unfold uniform at h
  split at h
  · cases h
  · rename_i x l'
    split at h
    · rename_i hg
      cases h
      have key : ∀ l' : List AV, uniform.go u l' = true → ∀ c ∈ l', c = u := by
        intro l'
        induction l' with
        | nil => intro _ c hc; cases hc
        | cons b l' ih =>
          intro hg c hc
          unfold uniform.go at hg
          split at hg
          · rename_i hb
            rcases List.mem_cons.1 hc with rfl | hc
            · exact AV.beq_eq hb
            · exact ih hg c hc
          · cases hg
      intro c hc
      rcases List.mem_cons.1 hc with rfl | hc
      · rfl
      · exact key _ hg c hc
    · cases h

theorem rowOf_sound {z : AV} {u : Value} {c s : Nat} {r : Vec} (hz : R ρ j z u) (hs : z.cells.length = s) (h : rowOf z.cells c s = some r) :
    r.n = c * s ∧ ∀ i, i < c * s → ∃ x, ((Array.range (c * s)).map (u.cells[· % u.cells.size]!))[i]? = some x ∧ R ρ j (r.get i) x := by
  subst hs
  unfold rowOf at h
  have hpos : ∀ i, i < c * z.cells.length → 0 < z.cells.length := fun i hi => by
    rcases Nat.eq_zero_or_pos z.cells.length with h | h
    · rw [h] at hi; simp at hi
    · exact h
  split at h
  · rename_i q hq
    cases h
    refine ⟨rfl, fun i hi => ?_⟩
    obtain ⟨x, c', h1, h2, h3⟩ := zeros_get (n := c * z.cells.length) hz hi (hpos i hi)
    refine ⟨x, h1, ?_⟩
    have := uniform_eq hq c' (List.mem_of_getElem? h2)
    subst this
    exact h3
  · split at h
    · cases h
      refine ⟨by rw [Vec.n_ofList, length_repL], fun i hi => ?_⟩
      obtain ⟨x, c', h1, h2, h3⟩ := zeros_get (n := c * z.cells.length) hz hi (hpos i hi)
      refine ⟨x, h1, ?_⟩
      have hl : i < (repL c z.cells).length := by rw [length_repL]; exact hi
      rw [Vec.get_ofList _ _ hl]
      have := getElem_repL c z.cells i hi
      rw [List.getElem?_eq_getElem hl, h2] at this
      rw [Option.some.inj this]
      exact h3
    · cases h

theorem aMakeSlice_sound (he : ER ρ j N env a) {t : TypeId} {xl xc : Operand} {nx : Nat} {v : AV} {ob : Obj} (ho : o.op = .makeSlice t xl xc) (h : aMakeSlice P t xl xc env nx = some (v, ob)) : AS P ρ j w a o nx v ob ∧ ownGrp nx ob := by
  unfold aMakeSlice at h
  split at h
  case h_2 => cases h
  rename_i e l c hu hl hc
  split at h
  case h_2 => cases h
  rename_i inf z hinf hz
  split at h
  case h_2 => cases h
  rename_i hle hby hlt hsz
  have hle := Nat.le_of_ble_eq_true hle
  have hby : inf.bytes * c ≤ 140737488355328 := Nat.le_of_ble_eq_true hby
  have hlt : c < 4611686018427387904 := by rwa [Nat.blt_eq] at hlt
  have hsz := natBeq hsz
  split at h
  case h_2 => cases h
  rename_i r hr
  cases h
  obtain ⟨kl, hl⟩ := natA_sound he hl
  obtain ⟨kc, hc⟩ := natA_sound he hc
  obtain ⟨z', hz1, hz2, _⟩ := zeroA_sound (ρ := ρ) (j := j) hz
  obtain ⟨hn, hcells⟩ := rowOf_sound hz2 hsz hr
  have hsize : szOf P e = some inf.size := by simp [szOf, hinf]
  have wl : IntKind.i64.wrap (l : Int) = (l : Int) := wrap_idle (by show (-(2 ^ 63) : Int) ≤ _; omega) (by show _ ≤ (2 ^ 63 - 1 : Int); omega)
  have wc : IntKind.i64.wrap (c : Int) = (c : Int) := wrap_idle (by show (-(2 ^ 63) : Int) ≤ _; omega) (by show _ ≤ (2 ^ 63 - 1 : Int); omega)
  refine ⟨⟨.slice (some ⟨w.heap.size, 0, none⟩) l c, .cells ((Array.range (c * inf.size)).map (z'.cells[· % z'.cells.size]!)) e (0, 0), ?_, ?_, _, jset_same _ _ _, hle, rfl⟩, rfl⟩
  · have hby' : ¬ ((inf.bytes : Int) * (c : Int) > 2 ^ 48) := by
      have : ((inf.bytes * c : Nat) : Int) ≤ ((140737488355328 : Nat) : Int) := Int.ofNat_le.2 hby
      rw [Int.natCast_mul] at this
      omega
    have htest : (decide ((c : Int) < 0) || decide ((inf.bytes : Int) * (c : Int) > 2 ^ 48) || decide ((l : Int) < 0) || decide ((l : Int) > (c : Int))) = false := by
      simp only [hby', decide_false, Bool.or_false]
      simp
      omega
    simp only [execOp, ho, hl, hc, Instr.makeSlice, asInt, asIntOf, Sem.run_bind, run_underlying hu, Result.andThen_ok, Sem.run_pure, typeInfo, run_program, hinf, wl, wc]
    rw [if_neg (by simpa using htest)]
    simp only [Sem.run_bind, run_askRoom, Result.andThen_ok, run_sizeOf hsize, Int.toNat_natCast]
    by_cases h0 : c * inf.size = 0
    · have e1 : ((Array.range (c * inf.size)).map ((#[] : Array Value)[· % (#[] : Array Value).size]!)) = ((Array.range (c * inf.size)).map (z'.cells[· % z'.cells.size]!)) := by simp [h0]
      rw [if_pos h0]
      simp only [Sem.run_bind, Sem.run_pure, Result.andThen_ok, e1]
      rfl
    · rw [if_neg h0]
      simp only [Sem.run_bind, Sem.run_pure, Result.andThen_ok, hz1]
      rfl
  · refine ⟨rfl, rfl, _, e, rfl, by rw [hn]; simp, ⟨by simp, fun hh => by cases hh⟩, fun i hi => ?_⟩
    rw [hn] at hi
    exact hcells i hi

theorem allocA_sound (he : ER ρ j N env a) {nx : Nat} {v : AV} {ob : Obj} (h : allocA P o.op env nx = some (v, ob)) : AS P ρ j w a o nx v ob ∧ ownGrp nx ob := by
  cases ho : o.op <;> rw [ho] at h <;> simp only [allocA] at h
  case alloc => exact aAlloc_sound ho h
  case box => exact aBox_sound he ho h
  case buildSlice => exact aBuildSlice_sound he ho h
  case makeMap => exact aMakeMap_sound he ho h
  case makeSlice => exact aMakeSlice_sound he ho h
  all_goals cases h

end
end Go.Dw
