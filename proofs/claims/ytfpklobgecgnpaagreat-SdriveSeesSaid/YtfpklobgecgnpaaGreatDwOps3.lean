/-
  DwOps3: ranging over a map; every operation but a call.
-/
import Derived.Test.YtfpklobgecgnpaaGreatDwOps2
namespace Go.Dw
set_option linter.unusedSimpArgs false
set_option linter.unusedVariables false

section
variable {P : Program} {ρ : Val} {w0 : World} {j : J} {H : Heap} {w : World} {N : Nat} {env : T AV} {a : Act} {o : Oper} {k : K} {Q : Exit → Act → World → Prop}

theorem range_ok (hi : Inv ρ w0 j H w) (he : ER ρ j N env a) {t : TypeId} {x : Operand} (ho : o.op = .range t x) (h : Ob.den ρ (dRange P t x env H k)) : OpOk P ρ w0 j H w a o k Q := by
  unfold dRange at h
  split at h
  case h_3 => exact h.elim
  · rename_i kt et m nx gw hu hx
    have hx : a.eval x = .map none := opd_sound he hx
    obtain ⟨h5, h6⟩ := hi.alloc (o := .iter none 0 [] 0) (ob := .mapIter none 0 #[] 0) (c := 0) ⟨rfl, _, _, rfl, rfl, rfl⟩ (fun v e g cl sh hob => by cases hob)
    refine .value (u := .pointer (some ⟨w.heap.size, 0, none⟩)) ?_ ⟨.ptr nx 0, _, _, ⟨_, jset_same _ _ _, by simp⟩, h5, h6, h⟩
    simp only [execOp, ho, hx, Instr.range, Sem.run_bind, run_underlying hu, Sem.run_pure, Result.andThen_ok, newObj, Sem.run]
  · rename_i kt et m m' nx gw hu hx
    obtain ⟨L, hj, hx⟩ := opd_sound he hx
    split at h
    case h_2 => exact h.elim
    rename_i es clock hm
    obtain ⟨arr, h1, h2⟩ := hi.mapAt hj hm
    obtain ⟨h5, h6⟩ := hi.alloc (o := .iter (some m) clock [] clock) (ob := .mapIter (some L.blk) clock #[] clock) (c := 0) ⟨rfl, _, _, rfl, rfl, L, hj, rfl⟩ (fun v e g cl sh hob => by cases hob)
    refine .value (u := .pointer (some ⟨w.heap.size, 0, none⟩)) ?_ ⟨.ptr nx 0, _, _, ⟨_, jset_same _ _ _, by simp⟩, h5, h6, h⟩
    simp only [execOp, ho, hx, Instr.range, Sem.run_bind, run_underlying hu, run_getObj_map P h1, Sem.run_pure, Result.andThen_ok, newObj, Sem.run]

/-! ### The next entry -/
theorem RM.length : ∀ {es : List ME} {xs : List MapEntry}, RM ρ j es xs → xs.length = es.length
  | [], xs, h => by rw [show xs = [] from h]; rfl
  | e :: es, _, h => by obtain ⟨x, xs, rfl, _, _, _, h4⟩ := h; simp [RM.length h4]
theorem RM.get : ∀ {es : List ME} {xs : List MapEntry} {i : Nat} {x : MapEntry}, RM ρ j es xs → xs[i]? = some x → ∃ e, es[i]? = some e ∧ R ρ j e.key x.key ∧ R ρ j e.val x.val ∧ x.born = e.born
  | [], xs, i, x, h, hx => by rw [show xs = [] from h] at hx; simp at hx
  | e :: es, _, 0, x, h, hx => by obtain ⟨y, ys, rfl, h1, h2, h3, _⟩ := h; simp at hx; subst hx; exact ⟨e, rfl, h1, h2, h3⟩
  | e :: es, _, i + 1, x, h, hx => by obtain ⟨y, ys, rfl, _, _, _, h4⟩ := h; simpa using RM.get h4 (by simpa using hx)
theorem RM.append : ∀ {es fs : List ME} {xs ys : List MapEntry}, RM ρ j es xs → RM ρ j fs ys → RM ρ j (es ++ fs) (xs ++ ys)
  | [], _, _, _, h, h' => by rw [show _ = [] from h]; exact h'
  | e :: es, _, _, _, h, h' => by obtain ⟨x, xs, rfl, h1, h2, h3, h4⟩ := h; exact ⟨x, _, rfl, h1, h2, h3, RM.append h4 h'⟩
theorem any_beq : ∀ (l : List Nat) (n : Nat), l.any (Nat.beq n) = l.contains n
  | [], n => rfl
  | a :: l, n => by
    rw [List.any_cons, List.contains_cons, any_beq l n]
    congr 1
    rw [Bool.eq_iff_iff, Nat.beq_eq]; simp
theorem RM_left {seen : List Nat} : ∀ {es : List ME} {xs : List MapEntry}, RM ρ j es xs → RM ρ j (leftOf seen es) (xs.filter fun e => !seen.contains e.born)
  | [], xs, h => by rw [show xs = [] from h]; rfl
  | e :: es, _, h => by
    obtain ⟨x, xs, rfl, h1, h2, h3, h4⟩ := h
    have ih := RM_left (seen := seen) h4
    unfold leftOf
    rw [any_beq, List.filter_cons, h3]
    cases hs : seen.contains e.born with
    | true => simpa using ih
    | false => exact ⟨x, _, rfl, h1, h2, h3, ih⟩
theorem RM_old {since : Nat} : ∀ {es : List ME} {xs : List MapEntry}, RM ρ j es xs → RM ρ j (oldOf since es) (xs.filter fun e => decide (e.born < since))
  | [], xs, h => by rw [show xs = [] from h]; rfl
  | e :: es, _, h => by
    obtain ⟨x, xs, rfl, h1, h2, h3, h4⟩ := h
    have ih := RM_old (since := since) h4
    unfold oldOf
    rw [List.filter_cons, h3]
    split
    · rename_i hb
      rw [Nat.blt_eq] at hb
      rw [if_pos (by simpa using hb)]
      exact ⟨x, _, rfl, h1, h2, h3, ih⟩
    · rename_i hb
      rw [if_neg (by intro hh; have hh := of_decide_eq_true hh; rw [← Nat.blt_eq] at hh; rw [hh] at hb; cases hb)]
      exact ih
theorem RM_new {since : Nat} : ∀ {es : List ME} {xs : List MapEntry}, RM ρ j es xs → RM ρ j (newOf since es) (xs.filter fun e => decide (e.born ≥ since))
  | [], xs, h => by rw [show xs = [] from h]; rfl
  | e :: es, _, h => by
    obtain ⟨x, xs, rfl, h1, h2, h3, h4⟩ := h
    have ih := RM_new (since := since) h4
    unfold newOf
    rw [List.filter_cons, h3]
    split
    · rename_i hb
      rw [Nat.blt_eq] at hb
      rw [if_neg (by simp; omega)]
      exact ih
    · rename_i hb
      rw [if_pos (by simp; apply Classical.byContradiction; intro hh; have hh : e.born < since := by omega
                     rw [← Nat.blt_eq] at hh; rw [hh] at hb; cases hb)]
      exact ⟨x, _, rfl, h1, h2, h3, ih⟩

/-- The test for a map whose entries are all new since. -/
def renewed (seen : List Nat) (es : List ME) (stepped : Nat) : Bool :=
  match seen, es with | [], _ => false | _, [] => false | _, es => es.all fun e => Nat.ble stepped e.born
theorem RM_all {st : Nat} : ∀ {es : List ME} {xs : List MapEntry}, RM ρ j es xs → (xs.all fun x => decide (x.born ≥ st)) = es.all fun e => Nat.ble st e.born
  | [], xs, h => by rw [show xs = [] from h]; rfl
  | e :: es, _, h => by
    obtain ⟨x, xs, rfl, h1, h2, h3, h4⟩ := h
    rw [List.all_cons, List.all_cons, RM_all h4, h3]
    congr 1
    cases hb : Nat.ble st e.born with
    | true => exact decide_eq_true (Nat.le_of_ble_eq_true hb)
    | false => exact decide_eq_false fun hh => by rw [Nat.ble_eq_true_of_le hh] at hb; cases hb
theorem renewed_eq {sa : Array Nat} {seen : List Nat} {es : List ME} {arr : Array MapEntry} {st : Nat} (hs : sa.toList = seen) (h : RM ρ j es arr.toList) : (!sa.isEmpty && !arr.isEmpty && arr.all (fun x => decide (x.born ≥ st))) = renewed seen es st := by
  have e1 : sa.isEmpty = seen.isEmpty := by rw [← hs]; simp
  have e2 : arr.isEmpty = es.isEmpty := by
    have := h.length
    rw [Array.length_toList] at this
    cases es with
    | nil => simp [Array.isEmpty]; simpa using this
    | cons e es => simp [Array.isEmpty]; intro h; rw [h] at this; simp at this
  have e3 : arr.all (fun x => decide (x.born ≥ st)) = es.all fun e => Nat.ble st e.born := by rw [← RM_all h]; simp
  rw [e1, e2, e3]
  unfold renewed
  cases seen <;> cases es <;> simp

theorem den_all : ∀ {l : List Ob} {x : Ob}, Ob.denL ρ l → x ∈ l → Ob.den ρ x
  | a :: l, x, h, hx => by
    rcases List.mem_cons.1 hx with rfl | hx
    · exact h.1
    · exact den_all h.2 hx
theorem forkAll_get {l : List (AV × Heap)} (h : Ob.den ρ (forkAll k l)) {i : Nat} {x : AV × Heap} (hx : l[i]? = some x) : Ob.den ρ (k x.1 x.2) := by
  unfold forkAll at h
  split at h
  · simp at hx
  · cases i with
    | zero => simp at hx; subst hx; exact h
    | succ i => simp at hx
  · exact den_all h (List.mem_map.2 ⟨x, List.mem_of_getElem? hx, rfl⟩)

theorem choose_next {n : Nat} (h : 0 < n) : ∃ (i : Nat) (w1 : World), i < n ∧ (w1 = w ∨ w1 = w.drew) ∧ (choose (Question.mapNext n)).run P w = .ok i w1 := by
  by_cases hf : n ≤ 1
  · exact ⟨0, w, by omega, .inl rfl, by simp [choose, Sem.run, Question.forced, hf]⟩
  · exact ⟨_, w.drew, Nat.mod_lt _ (by omega), .inr rfl, by
      simp only [choose, Sem.run, Question.forced, decide_eq_true_eq, hf, if_false, Question.cut]
      rfl⟩

def oldE (sa : Array Nat) (since : Nat) (arr : Array MapEntry) : Array MapEntry := (arr.filter fun e => !sa.contains e.born).filter fun e => decide (e.born < since)
def newE (sa : Array Nat) (since : Nat) (arr : Array MapEntry) : Array MapEntry := (arr.filter fun e => !sa.contains e.born).filter fun e => decide (e.born ≥ since)
def candsOf (old new : Array MapEntry) : Array (Option MapEntry) := (if old.isEmpty then #[none] else #[]) ++ (old ++ new).map some
theorem cands_zero (new : Array MapEntry) : (candsOf #[] new)[0]? = some none := by
  rw [← Array.getElem?_toList]; simp [candsOf]
theorem cands_succ (new : Array MapEntry) (i : Nat) : (candsOf #[] new)[i + 1]? = new[i]?.map some := by
  rw [← Array.getElem?_toList, ← Array.getElem?_toList]; simp [candsOf]
theorem cands_cons {old : Array MapEntry} (new : Array MapEntry) (h : old.isEmpty = false) (i : Nat) : (candsOf old new)[i]? = (old ++ new)[i]?.map some := by
  unfold candsOf
  rw [h]
  simp only [Bool.false_eq_true, if_false, Array.empty_append, Array.getElem?_map]
theorem cands_size (old new : Array MapEntry) : (candsOf old new).size = (if old.isEmpty then 1 else 0) + (old.size + new.size) := by
  unfold candsOf; split <;> simp
/-- What follows the choice. -/
def behind (msg : String) (r m since : Nat) (sa : Array Nat) (clock : Nat) : Option (Option MapEntry) → Sem Value
  | some (some e) => do
    setObj r (.mapIter (some m) since (sa.push e.born) clock)
    pure (.tuple #[.bool true, e.key, e.val])
  | some none => pure (.tuple #[.bool false])
  | none => stuck msg

theorem next_ok (hi : Inv ρ w0 j H w) (he : ER ρ j N env a) {x : Operand} {str : Bool} (ho : o.op = .next x str) (h : Ob.den ρ (dNext x str env H k)) : OpOk P ρ w0 j H w a o k Q := by
  unfold dNext at h
  split at h
  case h_2 => exact h.elim
  rename_i v hv0
  have hv := opd_sound he hv0
  have main : ∀ (u : Value) (w' : World) (l : List (AV × Heap)), nextA H v = some l → ∀ (i : Nat) (y : AV × Heap), l[i]? = some y → (Instr.next (a.eval x) false o.type).run P w = .ok u w' → (∃ j', R ρ j' y.1 u ∧ Inv ρ w0 j' y.2 w' ∧ St j H j' y.2) → OpOk P ρ w0 j H w a o k Q := by
    intro u w' l hl i y hy hrun hp
    rw [hl] at h
    obtain ⟨j', h1, h2, h3⟩ := hp
    refine .value (u := u) (w' := w') ?_ ⟨y.1, y.2, j', h1, h2, h3, forkAll_get h hy⟩
    simp only [execOp, ho, Sem.run_bind, hrun, Result.andThen_ok, Sem.run_pure]
  cases hn : nextA H v with
  | none => rw [hn] at h; exact h.elim
  | some l =>
    have hl := hn
    unfold nextA at hn
    split at hn
    case h_2 => cases hn
    rename_i n
    obtain ⟨L, hj, hu⟩ := hv
    split at hn
    case h_3 => cases hn
    · rename_i since seen st hm
      obtain ⟨ob, g1, g2⟩ := hi.obj n L hj
      rw [hm] at g1; cases g1
      obtain ⟨_, g3, m', sa, g4, g5, g6⟩ := g2
      subst g6
      cases hn
      refine main (.tuple #[.bool false]) w _ hl 0 _ rfl ?_ ⟨j, ⟨_, rfl, .one (by simp [R, SB.den])⟩, hi, St.refl j H⟩
      rw [hu, g3]
      simp [Instr.next, getObj, Sem.run_bind, Sem.run, g4, Result.andThen]
    · rename_i m since seen st hm
      obtain ⟨ob, g1, g2⟩ := hi.obj n L hj
      rw [hm] at g1; cases g1
      obtain ⟨hbase, g3, m', sa, g4, g5, Lm, g7, g6⟩ := g2
      subst g6
      split at hn
      · cases hn
      rename_i es clock hma
      obtain ⟨arr, q1, q2⟩ := hi.mapAt g7 hma
      have hren := renewed_eq (st := st) g5 q2
      change (match renewed seen es st with | true => none | false => some (match oldOf since (leftOf seen es) with
            | [] => ((.tup [.bool (.lit false)] : AV), H) :: ((oldOf since (leftOf seen es) ++ newOf since (leftOf seen es)).map fun e => ((.tup [.bool (.lit true), e.key, e.val] : AV), H.upd n (.iter (some m) since (seen ++ [e.born]) clock)))
            | _ :: _ => ((oldOf since (leftOf seen es) ++ newOf since (leftOf seen es)).map fun e => ((.tup [.bool (.lit true), e.key, e.val] : AV), H.upd n (.iter (some m) since (seen ++ [e.born]) clock))))) = some l at hn
      split at hn
      · cases hn
      rename_i hr
      rw [hr] at hren
      have hleft := RM_left (seen := seen) q2
      have hold := RM_old (since := since) hleft
      have hnew := RM_new (since := since) hleft
      have hcon : ∀ e : MapEntry, sa.contains e.born = seen.contains e.born := fun e => by rw [← g5]; simp
      have eL : (arr.filter fun (e : MapEntry) => !sa.contains e.born).toList = arr.toList.filter fun e => !seen.contains e.born := by
        rw [Array.toList_filter]
        exact List.filter_congr fun x _ => by rw [hcon]
      have hold : RM ρ j (oldOf since (leftOf seen es)) ((oldE sa since arr).toList) := by unfold oldE; rw [Array.toList_filter, eL]; exact hold
      have hnew : RM ρ j (newOf since (leftOf seen es)) ((newE sa since arr).toList) := by unfold newE; rw [Array.toList_filter, eL]; exact hnew
      obtain ⟨msg, hrun⟩ : ∃ msg, (Instr.next (a.eval x) false o.type).run P w = ((choose (.mapNext (candsOf (oldE sa since arr) (newE sa since arr)).size)).run P w).andThen fun i w1 => (behind msg L.blk Lm.blk since sa clock ((candsOf (oldE sa since arr) (newE sa since arr))[i]?)).run P w1 := by
        rw [hu, g3]
        simp only [Instr.next, Sem.run_bind, Nat.add_zero, run_getObj_iter P g4, Result.andThen_ok, run_getObj_map P q1, hren, Bool.false_eq_true, if_false]
        exact ⟨_, rfl⟩
      have hold : RM ρ j (oldOf since (leftOf seen es)) (oldE sa since arr).toList := hold
      have hnew : RM ρ j (newOf since (leftOf seen es)) (newE sa since arr).toList := hnew
      revert hold hnew hrun
      generalize oldE sa since arr = old'
      generalize newE sa since arr = new'
      generalize oldOf since (leftOf seen es) = old at hn ⊢
      generalize newOf since (leftOf seen es) = new at hn ⊢
      intro hrun hold hnew
      have hap : RM ρ j (old ++ new) (old' ++ new').toList := by rw [Array.toList_append]; exact hold.append hnew
      have hiw : ∀ w1, w1 = w ∨ w1 = w.drew → Inv ρ w0 j H w1 := fun w1 h => h.elim (fun e => e ▸ hi) (fun e => e ▸ hi.drew)
      -- an entry
      have entry : ∀ (i i' : Nat) (w1 : World) (y : MapEntry), (w1 = w ∨ w1 = w.drew) → (old' ++ new')[i']? = some y → (∀ e, (old ++ new)[i']? = some e → l[i]? = some ((.tup [.bool (.lit true), e.key, e.val] : AV), H.upd n (.iter (some m) since (seen ++ [e.born]) clock))) →
          (Instr.next (a.eval x) false o.type).run P w = ((setObj L.blk (.mapIter (some Lm.blk) since (sa.push y.born) clock)).run P w1).andThen (fun _ w' => .ok (.tuple #[.bool true, y.key, y.val]) w') → OpOk P ρ w0 j H w a o k Q := by
        intro i i' w1 y hw1 hy hl' hr
        obtain ⟨e, e1, e2, e3, e4⟩ := hap.get (i := i') (x := y) (by rw [Array.getElem?_toList]; exact hy)
        have hin := hiw w1 hw1
        have hheap : w1.heap[L.blk]? = some (.mapIter (some Lm.blk) since sa st) := by rcases hw1 with rfl | rfl <;> exact g4
        obtain ⟨s1, s2⟩ := hin.setObj (o' := .iter (some m) since (seen ++ [e.born]) clock) (ob := .mapIter (some Lm.blk) since (sa.push y.born) clock) hj hm rfl rfl rfl
          (fun w' ew => ⟨hbase, g3, _, _, ew, by rw [Array.toList_push, g5, e4], Lm, g7, rfl⟩)
        refine main _ _ l hl i _ (hl' e e1) (by rw [hr, run_setObj_map P hheap rfl]; rfl) ⟨j, ⟨_, rfl, .cons (by simp [R, SB.den]) (.two e2 e3)⟩, s1, s2⟩
      cases old with
      | nil =>
        have ho' : old' = #[] := by apply Array.ext'; exact hold
        subst ho'
        have hn := Option.some.inj hn
        obtain ⟨i, w1, hilt, hw1, hch⟩ := choose_next (P := P) (w := w) (n := (candsOf #[] new').size) (by rw [cands_size]; simp; omega)
        rw [hch] at hrun
        simp only [Result.andThen_ok] at hrun
        cases i with
        | zero =>
          refine main (.tuple #[.bool false]) w1 l hl 0 ((.tup [.bool (.lit false)] : AV), H) (by rw [← hn]; rfl) (by rw [hrun, cands_zero]; rfl) ⟨j, ⟨_, rfl, .one (by simp [R, SB.den])⟩, hiw w1 hw1, St.refl j H⟩
        | succ i =>
          have hlt : i < new'.size := by rw [cands_size] at hilt; simp at hilt; omega
          refine entry (i + 1) i w1 new'[i] hw1 (by simp [hlt]) (fun e he' => by rw [← hn, List.getElem?_cons_succ, List.getElem?_map, he']; rfl) (by
            rw [hrun, cands_succ, Array.getElem?_eq_getElem hlt]
            simp only [Option.map_some, behind, Sem.run_bind, Sem.run_pure])
      | cons e0 old =>
        have ho' : old'.isEmpty = false := by
          have := hold.length
          rw [Array.length_toList] at this
          simp only [Array.isEmpty, this, List.length_cons]
          simp
        have hpos : 0 < old'.size := by
          have := hold.length
          rw [Array.length_toList] at this
          simp [this]
        have hn := Option.some.inj hn
        obtain ⟨i, w1, hilt, hw1, hch⟩ := choose_next (P := P) (w := w) (n := (candsOf old' new').size) (by rw [cands_size]; omega)
        rw [hch] at hrun
        simp only [Result.andThen_ok] at hrun
        have hlt : i < (old' ++ new').size := by rw [cands_size, ho'] at hilt; simp at hilt ⊢; omega
        refine entry i i w1 (old' ++ new')[i] hw1 (Array.getElem?_eq_getElem hlt) (fun e he' => by rw [← hn, List.getElem?_map, he']; rfl) (by
          rw [hrun, cands_cons new' ho', Array.getElem?_eq_getElem hlt]
          simp only [Option.map_some, behind, Sem.run_bind, Sem.run_pure])

end
end Go.Dw
