/-
  DwPlan2: regions that draw, the second half: the facts of a plan, and what holds of the world while its operations are listed in whatever order.
-/
import Derived.Test.YtfpklobgecgnpaaGreatDwPlan
namespace Go.Dw
set_option linter.unusedSimpArgs false
set_option linter.unusedVariables false

def mkOf (ops : Array Oper) (i : Nat) : Nat := (masks ops.toList).getD i 0
def hsOf (ops : Array Oper) : List Nat := heavies ops.toList 0
def stOf (ops : Array Oper) (i : Nat) : Nat := stageN (mkOf ops i) (hsOf ops) 0 0
def allOf (ops : Array Oper) : List PO := posOf (hsOf ops) ops.toList (masks ops.toList) 0
def hpOf (ops : Array Oper) : List PO := (allOf ops).filter fun p => isHeavy p.o

structure PF (ops : Array Oper) : Prop where
  edges : EdgesLt ops
  chain : ∀ u h h', (hsOf ops)[u]? = some h → (hsOf ops)[u + 1]? = some h' → (mkOf ops h').testBit h = true
  reads : ∀ (p q : Nat) (o oq : Oper) (t : Tmp), ops[p]? = some o → ops[q]? = some oq → oq.dst = some t → t ∈ looks ops o → (mkOf ops p).testBit q = true ∨ (mkOf ops q).testBit p = true
  dsts : ∀ (p q : Nat) (o oq : Oper) (t : Tmp), p ≠ q → ops[p]? = some o → ops[q]? = some oq → o.dst = some t → oq.dst ≠ some t
  nodef : ∀ (p : Nat) (o : Oper), ops[p]? = some o → isDefer o = false
  rer : ∀ (u h p q : Nat) (o oq : Oper) (t : Tmp), (hsOf ops)[u]? = some h → ops[p]? = some o → isLight o = true → stOf ops p ≤ u → (mkOf ops h).testBit p = false →
    ops[q]? = some oq → oq.dst = some t → t ∈ looks ops o → (mkOf ops p).testBit q = true ∨ u < stOf ops q

/-! ### Heavy ones -/
theorem heavies_mem : ∀ (l : List Oper) (n i : Nat), i ∈ heavies l n ↔ ∃ k o, i = n + k ∧ l[k]? = some o ∧ isHeavy o = true
  | [], n, i => by simp [heavies]
  | o :: l, n, i => by
    unfold heavies
    split
    · rename_i h
      rw [List.mem_cons, heavies_mem l (Nat.succ n) i]
      constructor
      · rintro (rfl | ⟨k, o', h1, h2, h3⟩)
        · exact ⟨0, o, rfl, rfl, h⟩
        · exact ⟨k + 1, o', by omega, by simpa using h2, h3⟩
      · rintro ⟨k, o', h1, h2, h3⟩
        cases k with
        | zero => left; simpa using h1
        | succ k => exact .inr ⟨k, o', by omega, by simpa using h2, h3⟩
    · rename_i h
      rw [heavies_mem l (Nat.succ n) i]
      constructor
      · rintro ⟨k, o', h1, h2, h3⟩
        exact ⟨k + 1, o', by omega, by simpa using h2, h3⟩
      · rintro ⟨k, o', h1, h2, h3⟩
        cases k with
        | zero =>
          simp only [List.getElem?_cons_zero, Option.some.injEq] at h2
          subst h2
          rw [h] at h3; cases h3
        | succ k => exact ⟨k, o', by omega, by simpa using h2, h3⟩

theorem heavies_lt : ∀ (l : List Oper) (n : Nat), (heavies l n).Pairwise (· < ·)
  | [], n => List.Pairwise.nil
  | o :: l, n => by
    unfold heavies
    split
    · refine List.Pairwise.cons (fun i hi => ?_) (heavies_lt l _)
      obtain ⟨k, _, h, _⟩ := (heavies_mem l _ i).1 hi
      omega
    · exact heavies_lt l _

theorem hsOf_mem {ops : Array Oper} {i : Nat} : (∃ u : Nat, (hsOf ops)[u]? = some i) ↔ ∃ o, ops[i]? = some o ∧ isHeavy o = true := by
  rw [← List.mem_iff_getElem?]
  unfold hsOf
  rw [heavies_mem]
  constructor
  · rintro ⟨k, o, h1, h2, h3⟩
    have e : i = k := by omega
    subst e
    exact ⟨o, by simpa using h2, h3⟩
  · rintro ⟨o, h2, h3⟩
    exact ⟨i, o, by omega, by simpa using h2, h3⟩

theorem hsOf_lt {ops : Array Oper} {u v x y : Nat} (h1 : (hsOf ops)[u]? = some x) (h2 : (hsOf ops)[v]? = some y) (h : x < y) : u < v := by
  apply Classical.byContradiction
  intro hn
  obtain ⟨hu, e1⟩ := List.getElem?_eq_some_iff.1 h1
  obtain ⟨hv, e2⟩ := List.getElem?_eq_some_iff.1 h2
  rcases Nat.lt_or_eq_of_le (Nat.le_of_not_lt hn) with hlt | heq
  · have := (List.pairwise_iff_getElem.1 (heavies_lt ops.toList 0)) v u hv hu hlt
    change (hsOf ops)[v] < (hsOf ops)[u] at this
    omega
  · subst heq
    rw [h1] at h2
    cases h2
    exact Nat.lt_irrefl _ h
theorem hsOf_inj {ops : Array Oper} {u v x : Nat} (h1 : (hsOf ops)[u]? = some x) (h2 : (hsOf ops)[v]? = some x) : u = v := by
  obtain ⟨hu, e1⟩ := List.getElem?_eq_some_iff.1 h1
  obtain ⟨hv, e2⟩ := List.getElem?_eq_some_iff.1 h2
  rcases Nat.lt_trichotomy u v with h | h | h
  · have := (List.pairwise_iff_getElem.1 (heavies_lt ops.toList 0)) u v hu hv h
    change (hsOf ops)[u] < (hsOf ops)[v] at this
    omega
  · exact h
  · have := (List.pairwise_iff_getElem.1 (heavies_lt ops.toList 0)) v u hv hu h
    change (hsOf ops)[v] < (hsOf ops)[u] at this
    omega

/-! ### Masks -/
theorem mkOf_none {ops : Array Oper} {i x : Nat} (h : ops[i]? = none) : (mkOf ops i).testBit x = false := by
  unfold mkOf
  rw [List.getD_eq_getElem?_getD, List.getElem?_eq_none (by rw [masks_length]; simpa using h)]
  simp
theorem mask_lt {ops : Array Oper} (he : EdgesLt ops) : ∀ (i x : Nat), (mkOf ops i).testBit x = true → x < i := by
  intro i
  induction i using Nat.strongRecOn with
  | _ i ih =>
    intro x hx
    cases ho : ops[i]? with
    | none => rw [mkOf_none ho] at hx; cases hx
    | some o =>
      obtain ⟨e, h1, h2, h3⟩ := masksGo_bit ops.toList [] i x o (by simpa using ho) (by simpa [mkOf, masks] using hx)
      have hlt := he i o ho e (by simpa using h1) h2
      rcases h3 with rfl | ⟨h3, h4⟩
      · exact hlt
      · have := ih e.on hlt x (by simpa [mkOf, masks] using h4)
        omega

theorem edgesMask_of {ms : List Nat} : ∀ {l : List Edge} {x : Nat} {e : Edge}, e ∈ l → Region.binds .any e = true → (x = e.on ∨ (ms.getD e.on 0).testBit x = true) → (edgesMask ms l).testBit x = true
  | [], x, e, h, _, _ => by cases h
  | e' :: l, x, e, h, hb, hx => by
    unfold edgesMask
    rcases List.mem_cons.1 h with rfl | h
    · rw [hb]
      show (((2 ^ e.on) ||| (ms.getD e.on 0)) ||| edgesMask ms l).testBit x = true
      rw [Nat.testBit_or, Nat.testBit_or, Nat.testBit_two_pow]
      rcases hx with rfl | hx
      · simp
      · rw [hx]; simp
    · have ih := edgesMask_of h hb hx
      split
      · show (((2 ^ e'.on) ||| (ms.getD e'.on 0)) ||| edgesMask ms l).testBit x = true
        rw [Nat.testBit_or, ih]; simp
      · exact ih

theorem masksGo_conv : ∀ (l : List Oper) (ms : List Nat) (i x : Nat) (o : Oper), l[i]? = some o → ∀ e ∈ o.after.toList, Region.binds .any e = true → e.on < ms.length + i →
    (x = e.on ∨ ((masksGo l ms).getD e.on 0).testBit x = true) → ((masksGo l ms).getD (ms.length + i) 0).testBit x = true
  | [], ms, i, x, o, h, _, _, _, _, _ => by simp at h
  | o' :: l, ms, 0, x, o, h, e, he, hb, hlt, hx => by
    simp at h; subst h
    unfold masksGo at hx ⊢
    rw [List.getD_eq_getElem?_getD, masksGo_pre l _ _ (by simp), List.getElem?_append_right (by simp)]
    simp only [Nat.add_zero, Nat.sub_self, List.getElem?_cons_zero, Option.getD_some]
    refine edgesMask_of he hb (hx.imp id fun hx => ?_)
    rw [List.getD_eq_getElem?_getD, masksGo_pre l _ _ (by simp; omega), List.getElem?_append_left (by omega), ← List.getD_eq_getElem?_getD] at hx
    exact hx
  | o' :: l, ms, i + 1, x, o, h, e, he, hb, hlt, hx => by
    unfold masksGo at hx ⊢
    have := masksGo_conv l (ms ++ [edgesMask ms o'.after.toList]) i x o (by simpa using h) e he hb (by simp; omega) hx
    simpa [Nat.add_assoc, Nat.add_comm 1 i] using this
theorem mask_edge {ops : Array Oper} (he : EdgesLt ops) {i x : Nat} {o : Oper} (ho : ops[i]? = some o) {e : Edge} (h1 : e ∈ o.after) (h2 : Region.binds .any e = true) (hx : x = e.on ∨ (mkOf ops e.on).testBit x = true) :
    (mkOf ops i).testBit x = true := by
  have := masksGo_conv ops.toList [] i x o (by simpa using ho) e (by simpa using h1) h2 (by simpa using he i o ho e h1 h2) (by simpa [mkOf, masks] using hx)
  simpa [mkOf, masks] using this
theorem mask_trans {ops : Array Oper} (he : EdgesLt ops) : ∀ (i x y : Nat), (mkOf ops i).testBit x = true → (mkOf ops x).testBit y = true → (mkOf ops i).testBit y = true := by
  intro i
  induction i using Nat.strongRecOn with
  | _ i ih =>
    intro x y hx hy
    cases ho : ops[i]? with
    | none => rw [mkOf_none ho] at hx; cases hx
    | some o =>
      obtain ⟨e, h1, h2, h3⟩ := masksGo_bit ops.toList [] i x o (by simpa using ho) (by simpa [mkOf, masks] using hx)
      have hlt := he i o ho e (by simpa using h1) h2
      refine mask_edge he ho (by simpa using h1) h2 (.inr ?_)
      rcases h3 with rfl | ⟨h3, h4⟩
      · exact hy
      · exact ih e.on hlt x y (by simpa [mkOf, masks] using h4) hy

/-! ### Stages -/
theorem st_heavy {ops : Array Oper} {i u x : Nat} (hu : (hsOf ops)[u]? = some x) (hx : (mkOf ops i).testBit x = true) : u + 1 ≤ stOf ops i := by
  have := stageN_mem (m := mkOf ops i) (hsOf ops) 0 0 u x (Nat.le_refl _) hu hx
  unfold stOf
  omega
theorem st_last {ops : Array Oper} (i : Nat) : stOf ops i = 0 ∨ ∃ u x, (hsOf ops)[u]? = some x ∧ (mkOf ops i).testBit x = true ∧ stOf ops i = u + 1 := by
  rcases stageN_last (m := mkOf ops i) (hsOf ops) 0 0 (Nat.le_refl _) with h | ⟨u, x, h1, h2, h3⟩
  · exact .inl h
  · exact .inr ⟨u, x, h1, h2, by unfold stOf; omega⟩
theorem st_mono {ops : Array Oper} (he : EdgesLt ops) {i x : Nat} (hx : (mkOf ops i).testBit x = true) : stOf ops x ≤ stOf ops i := by
  rcases st_last (ops := ops) x with h | ⟨u, y, h1, h2, h3⟩
  · omega
  · have := st_heavy (i := i) h1 (mask_trans he i x y hx h2)
    omega

/-- What the canonical run has done: of the stages so far, of the stage at hand up to a number. -/
def DD (ops : Array Oper) (s n i : Nat) : Prop :=
  ∃ o, ops[i]? = some o ∧ ((isHeavy o = false ∧ (stOf ops i < s ∨ stOf ops i = s ∧ i < n)) ∨ (isHeavy o = true ∧ ∃ u, u < s ∧ (hsOf ops)[u]? = some i))

theorem mask_some {ops : Array Oper} (he : EdgesLt ops) {i x : Nat} (hx : (mkOf ops i).testBit x = true) : ∃ o, ops[x]? = some o := by
  have hlt := mask_lt he i x hx
  cases ho : ops[i]? with
  | none => rw [mkOf_none ho] at hx; cases hx
  | some o =>
    have := (Array.getElem?_eq_some_iff.1 ho).1
    exact ⟨ops[x], Array.getElem?_eq_getElem (by omega)⟩

theorem DD_mask {ops : Array Oper} (he : EdgesLt ops) {s n i x : Nat} (h : DD ops s n i) (hx : (mkOf ops i).testBit x = true) : DD ops s n x := by
  obtain ⟨o, ho, h⟩ := h
  obtain ⟨ox, hox⟩ := mask_some he hx
  have hlt := mask_lt he i x hx
  refine ⟨ox, hox, ?_⟩
  cases hh : isHeavy ox with
  | true =>
    obtain ⟨u, hu⟩ := hsOf_mem.2 ⟨ox, hox, hh⟩
    refine .inr ⟨rfl, u, ?_, hu⟩
    rcases h with ⟨_, h⟩ | ⟨_, v, hv, h⟩
    · have := st_heavy (i := i) hu hx
      omega
    · have := hsOf_lt hu h hlt
      omega
  | false =>
    refine .inl ⟨rfl, ?_⟩
    rcases h with ⟨_, h⟩ | ⟨_, v, hv, h⟩
    · have := st_mono he hx
      omega
    · rcases st_last (ops := ops) x with h0 | ⟨u, y, h1, h2, h3⟩
      · omega
      · have := mask_lt he x y h2
        have := hsOf_lt h1 h (by omega)
        omega
theorem DD_next {ops : Array Oper} (he : EdgesLt ops) {s i x : Nat} (hs : stOf ops i = s) (hx : (mkOf ops i).testBit x = true) : DD ops s i x := by
  obtain ⟨ox, hox⟩ := mask_some he hx
  have hlt := mask_lt he i x hx
  refine ⟨ox, hox, ?_⟩
  cases hh : isHeavy ox with
  | true =>
    obtain ⟨u, hu⟩ := hsOf_mem.2 ⟨ox, hox, hh⟩
    have := st_heavy (i := i) hu hx
    exact .inr ⟨rfl, u, by omega, hu⟩
  | false =>
    have := st_mono he hx
    exact .inl ⟨rfl, by omega⟩
theorem DD_succ {ops : Array Oper} {s n : Nat} {o : Oper} (ho : ops[n]? = some o) (hv : isHeavy o = false) (hs : stOf ops n = s) (i : Nat) : (DD ops s n i ∨ i = n) ↔ DD ops s (n + 1) i := by
  constructor
  · rintro (⟨o', h1, h2⟩ | rfl)
    · refine ⟨o', h1, h2.imp (fun h => ⟨h.1, ?_⟩) id⟩
      have := h.2; omega
    · exact ⟨o, ho, .inl ⟨hv, by omega⟩⟩
  · rintro ⟨o', h1, h2 | h2⟩
    · by_cases hi : i = n
      · exact .inr hi
      · exact .inl ⟨o', h1, .inl ⟨h2.1, by have := h2.2; omega⟩⟩
    · exact .inl ⟨o', h1, .inr h2⟩
theorem DD_skip {ops : Array Oper} {s n : Nat} {o : Oper} (ho : ops[n]? = some o) (h : isHeavy o = true ∨ stOf ops n ≠ s) (i : Nat) : DD ops s n i ↔ DD ops s (n + 1) i := by
  constructor
  · rintro ⟨o', h1, h2⟩
    refine ⟨o', h1, h2.imp (fun h => ⟨h.1, ?_⟩) id⟩
    have := h.2; omega
  · rintro ⟨o', h1, h2 | h2⟩
    · refine ⟨o', h1, .inl ⟨h2.1, ?_⟩⟩
      by_cases hi : i = n
      · subst hi
        rw [ho] at h1; cases h1
        rcases h with h | h
        · rw [h] at h2; cases h2.1
        · have := h2.2; omega
      · have := h2.2; omega
    · exact ⟨o', h1, .inr h2⟩
theorem DD_size {ops : Array Oper} {s n : Nat} (hn : ops.size ≤ n) (i : Nat) : DD ops s n i ↔ DD ops s ops.size i := by
  constructor <;> rintro ⟨o', h1, h2⟩ <;> have hlt := (Array.getElem?_eq_some_iff.1 h1).1 <;>
    exact ⟨o', h1, h2.imp (fun h => ⟨h.1, by have := h.2; omega⟩) id⟩
theorem DD_stage {ops : Array Oper} {s h : Nat} {o : Oper} (hu : (hsOf ops)[s]? = some h) (ho : ops[h]? = some o) (hv : isHeavy o = true) (i : Nat) : (DD ops s ops.size i ∨ i = h) ↔ DD ops (s + 1) 0 i := by
  constructor
  · rintro (⟨o', h1, h2⟩ | rfl)
    · refine ⟨o', h1, h2.imp (fun h => ⟨h.1, by have := h.2; omega⟩) fun ⟨a, u, b, c⟩ => ⟨a, u, by omega, c⟩⟩
    · exact ⟨o, ho, .inr ⟨hv, s, by omega, hu⟩⟩
  · rintro ⟨o', h1, h2 | ⟨h2, u, h3, h4⟩⟩
    · have hlt := (Array.getElem?_eq_some_iff.1 h1).1
      exact .inl ⟨o', h1, .inl ⟨h2.1, by have := h2.2; omega⟩⟩
    · by_cases hus : u = s
      · subst hus; rw [hu] at h4; cases h4; exact .inr rfl
      · exact .inl ⟨o', h1, .inr ⟨h2, u, by omega, h4⟩⟩

/-! ### The facts of a plan -/
theorem mem_all {ops : Array Oper} {p : PO} : p ∈ allOf ops ↔ ops[p.i]? = some p.o ∧ p.m = mkOf ops p.i ∧ p.s = stOf ops p.i := by
  unfold allOf
  rw [mem_posOf (by rw [masks_length])]
  constructor
  · rintro ⟨i, h1, h2, h3, h4⟩
    have e : p.i = i := by omega
    have hm : p.m = mkOf ops i := by unfold mkOf; rw [List.getD_eq_getElem?_getD, h3]; rfl
    rw [e]
    exact ⟨by simpa using h1, hm, by rw [h4, hm]; rfl⟩
  · rintro ⟨h1, h2, h3⟩
    have hlt := (Array.getElem?_eq_some_iff.1 h1).1
    have hm : (masks ops.toList)[p.i]? = some p.m := by
      rw [h2]; unfold mkOf
      rw [List.getD_eq_getElem?_getD, List.getElem?_eq_getElem (by rw [masks_length]; simpa using hlt)]; rfl
    exact ⟨p.i, by simpa using h1, by omega, hm, by rw [h3, h2]; rfl⟩
theorem all_mem {ops : Array Oper} {i : Nat} {o : Oper} (h : ops[i]? = some o) : (⟨o, i, mkOf ops i, stOf ops i⟩ : PO) ∈ allOf ops := mem_all.2 ⟨h, rfl, rfl⟩

theorem chained_at {ms : List Nat} : ∀ {l : List Nat} {u h h' : Nat}, chained ms l = true → l[u]? = some h → l[u + 1]? = some h' → (ms.getD h' 0).testBit h = true
  | [], u, h, h', _, h1, _ => by simp at h1
  | x :: l, u, h, h', hc, h1, h2 => by
    unfold chained at hc
    cases l with
    | nil => simp at h2
    | cons y l =>
      simp only at hc
      split at hc
      · rename_i hb
        cases u with
        | zero => simp at h1 h2; subst h1 h2; exact hb
        | succ u => exact chained_at hc (by simpa using h1) (by simpa using h2)
      · cases hc
theorem edgesLt_at : ∀ {l : List PO}, edgesLt l = true → ∀ p ∈ l, ∀ e ∈ p.o.after, Region.binds .any e = true → e.on < p.i
  | [], _, p, hp, _, _, _ => by cases hp
  | q :: l, h, p, hp, e, he, hb => by
    unfold edgesLt at h
    split at h
    case h_2 => cases h
    rename_i hq
    rcases List.mem_cons.1 hp with rfl | hp
    · have := List.all_eq_true.1 hq e (by simpa using he)
      rw [hb] at this
      rw [Nat.blt_eq] at this; exact this
    · exact edgesLt_at h p hp e he hb

theorem hp_map {hs : List Nat} : ∀ {l : List Oper} {ms : List Nat} {n : Nat}, l.length = ms.length → ((posOf hs l ms n).filter fun p => isHeavy p.o).map (·.i) = heavies l n
  | [], ms, n, _ => by simp [posOf, heavies]
  | o :: l, [], n, h => by simp at h
  | o :: l, m :: ms, n, h => by
    unfold posOf heavies
    rw [List.filter_cons]
    cases hv : isHeavy o with
    | true => simp [hv, hp_map (hs := hs) (l := l) (ms := ms) (n := n + 1) (by simpa using h)]
    | false => simp [hv, hp_map (hs := hs) (l := l) (ms := ms) (n := n + 1) (by simpa using h)]
theorem hpOf_map (ops : Array Oper) : (hpOf ops).map (·.i) = hsOf ops := hp_map (by rw [masks_length])
theorem hpOf_at {ops : Array Oper} {u : Nat} {p : PO} (h : (hpOf ops)[u]? = some p) : (hsOf ops)[u]? = some p.i ∧ ops[p.i]? = some p.o ∧ p.m = mkOf ops p.i ∧ isHeavy p.o = true := by
  have hm := List.mem_of_getElem? h
  unfold hpOf at hm
  rw [List.mem_filter, mem_all] at hm
  refine ⟨?_, hm.1.1, hm.1.2.1, hm.2⟩
  rw [← hpOf_map, List.getElem?_map, h]; rfl
theorem hpOf_length (ops : Array Oper) : (hpOf ops).length = (hsOf ops).length := by rw [← hpOf_map]; simp

theorem mem_rereadsP {s hm : Nat} {p : PO} : ∀ {l : List PO}, p ∈ rereadsP s hm l ↔ p ∈ l ∧ isLight p.o = true ∧ p.s ≤ s ∧ hm.testBit p.i = false
  | [] => by simp [rereadsP]
  | q :: l => by
    unfold rereadsP
    split
    · rename_i h1 h2 h3
      rw [List.mem_cons, List.mem_cons, mem_rereadsP]
      constructor
      · rintro (rfl | h)
        · exact ⟨.inl rfl, h1, Nat.le_of_ble_eq_true h2, h3⟩
        · exact ⟨.inr h.1, h.2⟩
      · rintro ⟨rfl | h, h'⟩
        · exact .inl rfl
        · exact .inr ⟨h, h'⟩
    · rename_i hne
      rw [List.mem_cons, mem_rereadsP]
      constructor
      · rintro ⟨h, h'⟩; exact ⟨.inr h, h'⟩
      · rintro ⟨rfl | h, h1, h2, h3⟩
        · exact absurd h3 (hne h1 (by rw [Nat.ble_eq]; exact h2))
        · exact ⟨h, h1, h2, h3⟩
theorem mem_opersOf {o : Oper} : ∀ {l : List PO}, o ∈ opersOf l ↔ ∃ p ∈ l, p.o = o
  | [] => by simp [opersOf]
  | q :: l => by unfold opersOf; rw [List.mem_cons, mem_opersOf]; constructor
                 · rintro (rfl | ⟨p, h, rfl⟩)
                   · exact ⟨q, List.mem_cons_self .., rfl⟩
                   · exact ⟨p, List.mem_cons_of_mem _ h, rfl⟩
                 · rintro ⟨p, h, rfl⟩
                   rcases List.mem_cons.1 h with rfl | h
                   · exact .inl rfl
                   · exact .inr ⟨p, h, rfl⟩
theorem rereadsOk_at {ops : Array Oper} {all : List PO} : ∀ {l : List PO} {s u : Nat} {p : PO}, rereadsOk ops all s l = true → l[u]? = some p → (rereadsP (s + u) p.m all).all (ownReads ops all (s + u)) = true
  | [], s, u, p, _, h => by simp at h
  | q :: l, s, u, p, h, hp => by
    unfold rereadsOk at h
    split at h
    case h_2 => cases h
    rename_i hq
    cases u with
    | zero => simp at hp; subst hp; exact hq
    | succ u =>
      have := rereadsOk_at (s := s + 1) (u := u) (p := p) h (by simpa using hp)
      rw [show s + (u + 1) = s + 1 + u by omega]
      exact this

theorem any_natBeq {l : List Nat} {t : Nat} (h : t ∈ l) : l.any (Nat.beq t) = true := List.any_eq_true.2 ⟨t, h, Nat.beq_refl t⟩

theorem planOf_facts {ops : Array Oper} {l : List PStep} (h : planOf ops = some l) : PF ops ∧ l = planFrom (allOf ops) 0 (hpOf ops) := by
  unfold planOf at h
  simp only at h
  split at h
  case h_2 => cases h
  rename_i hc
  change (chained (masks ops.toList) (hsOf ops) && edgesLt (allOf ops) && (allOf ops).all (readsOk ops (allOf ops)) && !(ops.toList.any isDefer) && rereadsOk ops (allOf ops) 0 (hpOf ops)) = true at hc
  rw [Bool.and_eq_true, Bool.and_eq_true, Bool.and_eq_true, Bool.and_eq_true] at hc
  obtain ⟨⟨⟨⟨c1, c2⟩, c3⟩, c4⟩, c5⟩ := hc
  refine ⟨⟨fun i o ho e he hb => edgesLt_at c2 _ (all_mem ho) e he hb, fun u h h' h1 h2 => chained_at c1 h1 h2, fun p q o oq t hp hq hd ht => ?_, fun p q o oq t hne hp hq hd hdq => ?_, fun p o hp => ?_, fun u h p q o oq t hu hp hl hs hb hq hd ht => ?_⟩, (Option.some.inj h).symm⟩
  · have := List.all_eq_true.1 (List.all_eq_true.1 c3 _ (all_mem hp)) _ (all_mem hq)
    simp only [hd, any_natBeq ht] at this
    cases hb : (mkOf ops p).testBit q with
    | true => exact .inl rfl
    | false =>
      cases hb' : (mkOf ops q).testBit p with
      | true => exact .inr rfl
      | false => simp [hb, hb'] at this
  · have := List.all_eq_true.1 (List.all_eq_true.1 c3 _ (all_mem hp)) _ (all_mem hq)
    simp only [hdq, hd] at this
    have e1 : Nat.beq p q = false := by cases e : Nat.beq p q with
      | false => rfl
      | true => exact absurd (Nat.eq_of_beq_eq_true e) hne
    split at this
    · cases this
    · simp [e1] at this
  · have := c4
    simp only [Bool.not_eq_true', List.any_eq_false] at this
    have := this o (by have := Array.mem_of_getElem? hp; simpa using this)
    simpa using this
  · obtain ⟨hlt, _⟩ := List.getElem?_eq_some_iff.1 hu
    rw [← hpOf_length] at hlt
    have hpo : (hpOf ops)[u]? = some (hpOf ops)[u] := List.getElem?_eq_getElem hlt
    obtain ⟨g1, g2, g3, g4⟩ := hpOf_at hpo
    rw [hu] at g1
    have e : h = (hpOf ops)[u].i := Option.some.inj g1
    have hall := rereadsOk_at c5 hpo
    rw [Nat.zero_add, g3, ← e] at hall
    have := List.all_eq_true.1 hall ⟨o, p, mkOf ops p, stOf ops p⟩ (mem_rereadsP.2 ⟨all_mem hp, hl, hs, hb⟩)
    unfold ownReads at this
    have := List.all_eq_true.1 this _ (all_mem hq)
    simp only [hd, any_natBeq ht] at this
    cases hb : (mkOf ops p).testBit q with
    | true => exact .inl rfl
    | false =>
      cases hb' : Nat.blt u (stOf ops q) with
      | true => rw [Nat.blt_eq] at hb'; exact .inr hb'
      | false => simp [hb, hb'] at this

theorem st_heavy_le {ops : Array Oper} (he : EdgesLt ops) {v x : Nat} (hv : (hsOf ops)[v]? = some x) : stOf ops x ≤ v := by
  rcases st_last (ops := ops) x with h | ⟨u, y, h1, h2, h3⟩
  · omega
  · have := hsOf_lt h1 hv (mask_lt he x y h2)
    omega

end Go.Dw
