/-
  DwLaw: the laws of the abstract machine's data: the trie, the fast integers, the tests for equality.
-/
import Derived.Test.YtfpklobgecgnpaaGreatDwRun
namespace Go.Dw
set_option linter.unusedSimpArgs false
set_option linter.unusedVariables false

namespace T
variable {α : Type}
theorem get_leaf (n : Nat) : (leaf : T α).get n = none := rfl
theorem get_zero (l : T α) (v : Option α) (r : T α) : (node l v r).get 0 = v := rfl
theorem get_succ (l : T α) (v : Option α) (r : T α) (m : Nat) :
    (node l v r).get (m + 1) = if m % 2 = 0 then l.get (m / 2) else r.get (m / 2) := by
  show Nat.casesOn (motive := fun _ => Option α) (Nat.mod m 2) (l.get (Nat.div m 2)) (fun _ => r.get (Nat.div m 2)) = _
  have h : Nat.mod m 2 = m % 2 := rfl
  have h2 : Nat.div m 2 = m / 2 := rfl
  rw [h, h2]
  cases e : m % 2 with
  | zero => rw [if_pos rfl]; rfl
  | succ k => rw [if_neg (by omega)]

theorem mkL_eq (v : Option α) (r l : T α) : mkL v r l = node l v r := by cases l <;> rfl
theorem mkR_eq (v : Option α) (l r : T α) : mkR v l r = node l v r := by cases r <;> rfl

theorem setF_leaf_zero (f : Nat) (x : α) : setF (f + 1) leaf 0 x = node leaf (some x) leaf := rfl
theorem setF_node_zero (f : Nat) (l : T α) (v : Option α) (r : T α) (x : α) : setF (f + 1) (node l v r) 0 x = node l (some x) r := rfl
theorem setF_leaf_succ (f m : Nat) (x : α) : setF (f + 1) (leaf : T α) (m + 1) x =
    if m % 2 = 0 then node (setF f leaf (m / 2) x) none leaf else node leaf none (setF f leaf (m / 2) x) := by
  show Nat.casesOn (motive := fun _ => T α) (Nat.mod m 2) (mkL none leaf (setF f leaf (Nat.div m 2) x)) (fun _ => mkR none leaf (setF f leaf (Nat.div m 2) x)) = _
  have h : Nat.mod m 2 = m % 2 := rfl
  have h2 : Nat.div m 2 = m / 2 := rfl
  rw [h, h2]
  cases e : m % 2 with
  | zero => rw [if_pos rfl]; exact mkL_eq _ _ _
  | succ k => rw [if_neg (by omega)]; exact mkR_eq _ _ _
theorem setF_node_succ (f m : Nat) (l : T α) (v : Option α) (r : T α) (x : α) : setF (f + 1) (node l v r) (m + 1) x =
    if m % 2 = 0 then node (setF f l (m / 2) x) v r else node l v (setF f r (m / 2) x) := by
  show Nat.casesOn (motive := fun _ => T α) (Nat.mod m 2) (mkL v r (setF f l (Nat.div m 2) x)) (fun _ => mkR v l (setF f r (Nat.div m 2) x)) = _
  have h : Nat.mod m 2 = m % 2 := rfl
  have h2 : Nat.div m 2 = m / 2 := rfl
  rw [h, h2]
  cases e : m % 2 with
  | zero => rw [if_pos rfl]; exact mkL_eq _ _ _
  | succ k => rw [if_neg (by omega)]; exact mkR_eq _ _ _

theorem get_setF : ∀ (f : Nat) (t : T α) (n m : Nat) (x : α), n < f → (setF f t n x).get m = if m = n then some x else t.get m := by
  intro f
  induction f with
  | zero => intro t n m x h; omega
  | succ f ih =>
    intro t n m x h
    cases n with
    | zero =>
      cases t with
      | leaf =>
        rw [setF_leaf_zero]
        cases m with
        | zero => rfl
        | succ m => rw [get_succ]; simp [get_leaf]
      | node l v r =>
        rw [setF_node_zero]
        cases m with
        | zero => rfl
        | succ m => rw [get_succ, get_succ]; simp
    | succ n =>
      have hn : n / 2 < f := by omega
      cases t with
      | leaf =>
        rw [setF_leaf_succ]
        by_cases hp : n % 2 = 0
        · rw [if_pos hp]
          cases m with
          | zero => rw [get_zero]; simp [get_leaf]
          | succ m =>
            rw [get_succ, get_leaf, get_leaf, ih _ _ _ _ hn, get_leaf]
            by_cases hm : m % 2 = 0
            · rw [if_pos hm]
              by_cases e : m / 2 = n / 2
              · rw [if_pos e, if_pos (by omega)]
              · rw [if_neg e, if_neg (by omega)]
            · rw [if_neg hm, if_neg (by omega)]
        · rw [if_neg hp]
          cases m with
          | zero => rw [get_zero]; simp [get_leaf]
          | succ m =>
            rw [get_succ, get_leaf, get_leaf, ih _ _ _ _ hn, get_leaf]
            by_cases hm : m % 2 = 0
            · rw [if_pos hm, if_neg (by omega)]
            · rw [if_neg hm]
              by_cases e : m / 2 = n / 2
              · rw [if_pos e, if_pos (by omega)]
              · rw [if_neg e, if_neg (by omega)]
      | node l v r =>
        rw [setF_node_succ]
        by_cases hp : n % 2 = 0
        · rw [if_pos hp]
          cases m with
          | zero => rw [get_zero, get_zero]; simp
          | succ m =>
            rw [get_succ, get_succ, ih _ _ _ _ hn]
            by_cases hm : m % 2 = 0
            · rw [if_pos hm, if_pos hm]
              by_cases e : m / 2 = n / 2
              · rw [if_pos e, if_pos (by omega)]
              · rw [if_neg e, if_neg (by omega)]
            · rw [if_neg hm, if_neg hm, if_neg (by omega)]
        · rw [if_neg hp]
          cases m with
          | zero => rw [get_zero, get_zero]; simp
          | succ m =>
            rw [get_succ, get_succ, ih _ _ _ _ hn]
            by_cases hm : m % 2 = 0
            · rw [if_pos hm, if_pos hm, if_neg (by omega)]
            · rw [if_neg hm, if_neg hm]
              by_cases e : m / 2 = n / 2
              · rw [if_pos e, if_pos (by omega)]
              · rw [if_neg e, if_neg (by omega)]

theorem get_set (t : T α) (n m : Nat) (x : α) : (t.set n x).get m = if m = n then some x else t.get m := get_setF _ _ _ _ _ (Nat.lt_succ_self n)
theorem get_set_same (t : T α) (n : Nat) (x : α) : (t.set n x).get n = some x := by rw [get_set, if_pos rfl]
theorem get_set_ne (t : T α) {n m : Nat} (x : α) (h : m ≠ n) : (t.set n x).get m = t.get m := by rw [get_set, if_neg h]
end T

theorem forceN_eq {β : Type} (n : Nat) (k : Nat → β) : forceN n k = k n := by cases n <;> rfl

/-! ### Rows -/
theorem Vec.get_eq (v : Vec) (i : Nat) : v.get i = (v.t.get i).getD v.d := by
  unfold Vec.get; cases v.t.get i <;> rfl
theorem Vec.set_eq (v : Vec) (i : Nat) (x : AV) : v.set i x = ⟨v.t.set i x, v.n, v.d⟩ := by
  obtain ⟨t, n, d⟩ := v
  show (match t.set i x with | .leaf => (⟨.leaf, n, d⟩ : Vec) | .node a b c => ⟨.node a b c, n, d⟩) = _
  cases t.set i x <;> rfl
theorem Vec.get_set (v : Vec) (i j : Nat) (x : AV) : (v.set i x).get j = if j = i then x else v.get j := by
  rw [Vec.set_eq, Vec.get_eq, Vec.get_eq, T.get_set]
  by_cases h : j = i <;> simp [h]
theorem Vec.n_set (v : Vec) (i : Nat) (x : AV) : (v.set i x).n = v.n := by rw [Vec.set_eq]
theorem Vec.n_put : ∀ (l : List AV) (v : Vec) (i : Nat), (v.put i l).n = v.n
  | [], _, _ => rfl
  | x :: l, v, i => by unfold Vec.put; rw [Vec.n_put l, Vec.n_set]
theorem Vec.get_put : ∀ (l : List AV) (v : Vec) (i j : Nat), (v.put i l).get j = if h : i ≤ j ∧ j < i + l.length then l[j - i]'(by omega) else v.get j
  | [], v, i, j => by
    unfold Vec.put
    rw [dif_neg (by simp)]
  | x :: l, v, i, j => by
    unfold Vec.put
    rw [Vec.get_put l, Vec.get_set]
    by_cases h : j = i
    · subst h
      rw [dif_neg (by simp; omega), if_pos rfl, dif_pos (by simp)]
      simp
    · by_cases h2 : i ≤ j ∧ j < i + (x :: l).length
      · rw [dif_pos (by simp at h2 ⊢; omega), dif_pos h2]
        have e : j - i = (j - Nat.succ i) + 1 := by simp at h2; omega
        simp only [e, List.getElem_cons_succ]
      · rw [dif_neg (by simp at h2 ⊢; omega), dif_neg h2, if_neg h]
theorem Vec.n_ofList (l : List AV) : (Vec.ofList l).n = l.length := by unfold Vec.ofList; rw [Vec.n_put]
theorem Vec.get_ofList (l : List AV) (i : Nat) (h : i < l.length) : (Vec.ofList l).get i = l[i] := by
  unfold Vec.ofList
  rw [Vec.get_put, dif_pos (by omega)]
  simp
theorem Vec.length_list : ∀ (n : Nat) (v : Vec) (i : Nat), (v.list i n).length = n
  | 0, _, _ => rfl
  | n + 1, v, i => by unfold Vec.list; rw [List.length_cons, Vec.length_list]
theorem Vec.getElem_list : ∀ (n : Nat) (v : Vec) (i k : Nat) (h : k < n), (v.list i n)[k]? = some (v.get (i + k))
  | 0, _, _, _, h => by omega
  | n + 1, v, i, 0, _ => by unfold Vec.list; simp
  | n + 1, v, i, k + 1, h => by
    unfold Vec.list
    rw [List.getElem?_cons_succ, Vec.getElem_list n v (Nat.succ i) k (by omega)]
    congr 2; omega

/-! ### Fast integers -/
theorem ltI_eq (x y : Int) : ltI x y = decide (x < y) := by
  cases x <;> cases y <;> unfold ltI <;> rw [Bool.eq_iff_iff] <;> simp [Nat.blt_eq] <;> omega
theorem eqI_eq (x y : Int) : eqI x y = (x == y) := by
  cases x <;> cases y <;> unfold eqI <;> rw [Bool.eq_iff_iff] <;> simp [Nat.beq_eq] <;> omega
theorem eqI_iff (x y : Int) : eqI x y = true ↔ x = y := by rw [eqI_eq]; simp
theorem cmpF_eq (o : BinOp) (x y : Int) : cmpF o x y = cmpOp o x y := by
  cases o <;> simp only [cmpF, cmpOp, eqI_eq, ltI_eq]
  case neq => show (match (x == y) with | true => false | false => true) = (!(x == y)); cases (x == y) <;> rfl
  case leq => by_cases h : y < x <;> simp [h] <;> omega
  all_goals (by_cases h : x < y <;> simp [h] <;> omega)
theorem addI_eq (x y : Int) : addI x y = x + y := by cases x <;> cases y <;> rfl
theorem mulI_eq (x y : Int) : mulI x y = x * y := by cases x <;> cases y <;> rfl
theorem divI_eq (x y : Int) : divI x y = x.tdiv y := by cases x <;> cases y <;> rfl
theorem modI_eq (x y : Int) : modI x y = x.tmod y := by cases x <;> cases y <;> rfl
theorem subI_eq (x y : Int) : subI x y = x - y := by
  cases x <;> cases y <;> try rfl
  rename_i a b
  have e : subI (Int.ofNat a) (Int.ofNat b) = match Nat.ble b a with | true => Int.ofNat (Nat.sub a b) | false => Int.negSucc (Nat.sub (Nat.sub b a) 1) := rfl
  rw [e]
  cases h : Nat.ble b a with
  | true =>
    have := Nat.le_of_ble_eq_true h
    show Int.ofNat (a - b) = (a : Int) - (b : Int)
    simp only [Int.ofNat_eq_natCast]; omega
  | false =>
    have : ¬ b ≤ a := fun hh => by rw [Nat.ble_eq_true_of_le hh] at h; cases h
    show Int.negSucc (b - a - 1) = (a : Int) - (b : Int)
    rw [Int.negSucc_eq]; omega

theorem wrap_idle {k : IntKind} {n : Int} (h1 : k.min ≤ n) (h2 : n ≤ k.max) : k.wrap n = n := by
  cases k <;> simp [IntKind.min, IntKind.max, IntKind.signed, IntKind.bits] at h1 h2 <;> simp [IntKind.wrap, IntKind.signed, IntKind.bits] <;> omega
theorem wrapF_eq (k : IntKind) (n : Int) : wrapF k n = k.wrap n := by
  cases n with
  | ofNat m =>
    have e : wrapF k (Int.ofNat m) = match Nat.blt m (topOf k) with | true => Int.ofNat m | false => k.wrap (Int.ofNat m) := rfl
    rw [e]
    cases h : Nat.blt m (topOf k) with
    | true =>
      rw [Nat.blt_eq] at h
      refine (wrap_idle ?_ ?_).symm <;> cases k <;> simp [topOf] at h <;> simp [IntKind.min, IntKind.max, IntKind.signed, IntKind.bits] <;> omega
    | false => rfl
  | negSucc m =>
    have e : wrapF k (Int.negSucc m) = match k.signed with | true => (match Nat.blt m (topOf k) with | true => Int.negSucc m | false => k.wrap (Int.negSucc m)) | false => k.wrap (Int.negSucc m) := rfl
    rw [e]
    cases hs : k.signed with
    | false => rfl
    | true =>
      cases h : Nat.blt m (topOf k) with
      | true =>
        rw [Nat.blt_eq] at h
        refine (wrap_idle ?_ ?_).symm <;> cases k <;> simp [topOf] at h <;> simp [IntKind.signed] at hs <;> simp [IntKind.min, IntKind.max, IntKind.signed, IntKind.bits] <;> omega
      | false => rfl

theorem ofInt_ofNat (n x : Nat) : BitVec.ofInt n (Int.ofNat x) = BitVec.ofNat n x := by
  apply BitVec.eq_of_toNat_eq; simp
theorem wrap_nat {k : IntKind} {m : Nat} (h : m < topOf k) : k.wrap ((m : Nat) : Int) = Int.ofNat m := by
  refine wrap_idle ?_ ?_ <;> cases k <;> simp [topOf] at h <;> simp [IntKind.min, IntKind.max, IntKind.signed, IntKind.bits] <;> omega
theorem topOf_pow (k : IntKind) : ∃ e, topOf k = 2 ^ e ∧ e ≤ k.bits := by
  cases k <;> simp only [topOf, IntKind.bits]
  · exact ⟨7, by decide, by decide⟩
  · exact ⟨15, by decide, by decide⟩
  · exact ⟨31, by decide, by decide⟩
  · exact ⟨63, by decide, by decide⟩
  · exact ⟨8, by decide, by decide⟩
  · exact ⟨16, by decide, by decide⟩
  · exact ⟨32, by decide, by decide⟩
  · exact ⟨64, by decide, by decide⟩
theorem bitsF_eq (o : BinOp) (ho : o = .and ∨ o = .or ∨ o = .xor ∨ o = .andNot) (k : IntKind) (x y : Int) : bitsF o k x y = bitsOp o k x y := by
  cases x with
  | negSucc a => cases y <;> rfl
  | ofNat a =>
    cases y with
    | negSucc b => rfl
    | ofNat b =>
      cases ha : Nat.blt a (topOf k) with
      | false => simp only [bitsF, ha]
      | true =>
        cases hb : Nat.blt b (topOf k) with
        | false => simp only [bitsF, ha, hb]
        | true =>
          have key : bitsF o k (Int.ofNat a) (Int.ofNat b) = bitsF.nat o a b := by simp only [bitsF, ha, hb]
          rw [key]
          rw [Nat.blt_eq] at ha hb
          obtain ⟨e, he, hle⟩ := topOf_pow k
          have ha2 : a < 2 ^ k.bits := Nat.lt_of_lt_of_le (he ▸ ha) (Nat.pow_le_pow_right (by omega) hle)
          have hb2 : b < 2 ^ k.bits := Nat.lt_of_lt_of_le (he ▸ hb) (Nat.pow_le_pow_right (by omega) hle)
          have ea : (BitVec.ofNat k.bits a).toNat = a := by rw [BitVec.toNat_ofNat, Nat.mod_eq_of_lt ha2]
          have eb : (BitVec.ofNat k.bits b).toNat = b := by rw [BitVec.toNat_ofNat, Nat.mod_eq_of_lt hb2]
          rcases ho with rfl | rfl | rfl | rfl
          · show Int.ofNat (a &&& b) = k.wrap _
            rw [ofInt_ofNat, ofInt_ofNat, BitVec.toNat_and, ea, eb, wrap_nat (by rw [he]; exact Nat.and_lt_two_pow _ (he ▸ hb))]
          · show Int.ofNat (a ||| b) = k.wrap _
            rw [ofInt_ofNat, ofInt_ofNat, BitVec.toNat_or, ea, eb, wrap_nat (by rw [he]; exact Nat.or_lt_two_pow (he ▸ ha) (he ▸ hb))]
          · show Int.ofNat (a ^^^ b) = k.wrap _
            rw [ofInt_ofNat, ofInt_ofNat, BitVec.toNat_xor, ea, eb, wrap_nat (by rw [he]; exact Nat.xor_lt_two_pow (he ▸ ha) (he ▸ hb))]
          · show Int.ofNat (a ^^^ (a &&& b)) = k.wrap (((BitVec.ofInt k.bits (Int.ofNat a) &&& ~~~(BitVec.ofInt k.bits (Int.ofNat b))).toNat : Nat) : Int)
            have e3 : (BitVec.ofInt k.bits (Int.ofNat a) &&& ~~~(BitVec.ofInt k.bits (Int.ofNat b))).toNat = a ^^^ (a &&& b) := by
              rw [ofInt_ofNat, ofInt_ofNat, BitVec.toNat_and, ea]
              apply Nat.eq_of_testBit_eq
              intro i
              rw [Nat.testBit_and, Nat.testBit_xor, Nat.testBit_and]
              by_cases hi : i < k.bits
              · have : (~~~(BitVec.ofNat k.bits b)).toNat.testBit i = !(b.testBit i) := by
                  have h1 : (~~~(BitVec.ofNat k.bits b)).toNat.testBit i = (~~~(BitVec.ofNat k.bits b)).getLsbD i := rfl
                  rw [h1, BitVec.getLsbD_not]
                  have h2 : (BitVec.ofNat k.bits b).getLsbD i = (BitVec.ofNat k.bits b).toNat.testBit i := rfl
                  rw [h2, eb]; simp [hi]
                rw [this]
                cases a.testBit i <;> cases b.testBit i <;> rfl
              · have : a.testBit i = false := Nat.testBit_lt_two_pow (Nat.lt_of_lt_of_le ha2 (Nat.pow_le_pow_right (by omega) (by omega)))
                simp [this]
            rw [e3, wrap_nat (by rw [he]; exact Nat.xor_lt_two_pow (he ▸ ha) (Nat.and_lt_two_pow _ (he ▸ hb)))]

theorem min_blt (y b : Nat) : (match Nat.blt y b with | true => y | false => b) = min y b := by
  cases h : Nat.blt y b with
  | true => rw [Nat.blt_eq] at h; simp; omega
  | false =>
    have : ¬ y < b := fun hh => by rw [← Nat.blt_eq] at hh; rw [hh] at h; cases h
    simp; omega
theorem shrF_eq (k : IntKind) (x : Int) (y : Nat) : shrF k x y = x.fdiv (2 ^ (min y k.bits)) := by
  cases x with
  | negSucc a => rfl
  | ofNat a =>
    show Int.ofNat (Nat.div a (Nat.pow 2 (match Nat.blt y k.bits with | true => y | false => k.bits))) = _
    rw [min_blt]
    show ((a / 2 ^ (min y k.bits) : Nat) : Int) = _
    rw [Int.natCast_ediv, Int.fdiv_eq_ediv_of_nonneg _ (by exact_mod_cast Nat.zero_le _)]
    simp
theorem shlF_eq (k : IntKind) (x : Int) (y : Nat) : shlF k x y = k.wrap (x * 2 ^ (min y k.bits)) := by
  cases x with
  | negSucc a => rfl
  | ofNat a =>
    show wrapF k (Int.ofNat (Nat.mul a (Nat.pow 2 (match Nat.blt y k.bits with | true => y | false => k.bits)))) = _
    rw [min_blt, wrapF_eq]
    congr 1

/-- The literal operations are the model's. -/
theorem intF_eq {o : BinOp} {k : IntKind} {x y z : Int} (h : intF o k x y = some z) : intOp o k x y = z := by
  cases o <;> simp only [intF, addI_eq, subI_eq, mulI_eq, divI_eq, modI_eq, wrapF_eq] at h
  case add => exact Option.some.inj h
  case sub => exact Option.some.inj h
  case mul => exact Option.some.inj h
  case quo => split at h <;> simp_all [intOp]
  case rem => split at h <;> simp_all [intOp]
  case shl => split at h <;> simp_all [intOp, shlF_eq]
  case shr => split at h <;> simp_all [intOp, shrF_eq]
  case and => rw [bitsF_eq _ (by simp)] at h; exact Option.some.inj h
  case or => rw [bitsF_eq _ (by simp)] at h; exact Option.some.inj h
  case xor => rw [bitsF_eq _ (by simp)] at h; exact Option.some.inj h
  case andNot => rw [bitsF_eq _ (by simp)] at h; exact Option.some.inj h
  all_goals cases h

/-! ### Tests for equality -/
theorem kn_inj {k k' : IntKind} (h : Nat.beq (kn k) (kn k') = true) : k = k' := by
  cases k <;> cases k' <;> first | rfl | cases h
theorem natBeq {a b : Nat} (h : Nat.beq a b = true) : a = b := Nat.eq_of_beq_eq_true h
theorem natsBeq_eq : ∀ {a b : List Nat}, natsBeq a b = true → a = b
  | [], [], _ => rfl
  | [], _ :: _, h => by cases h
  | _ :: _, [], h => by cases h
  | a :: l, b :: m, h => by
    unfold natsBeq at h
    split at h
    · rename_i h1; rw [natBeq h1, natsBeq_eq h]
    · cases h
theorem natsBeq_refl : ∀ (a : List Nat), natsBeq a a = true
  | [] => rfl
  | a :: l => by unfold natsBeq; rw [Nat.beq_refl]; exact natsBeq_refl l
theorem natsBeq_iff {a b : List Nat} : natsBeq a b = decide (a = b) := by
  by_cases h : a = b
  · subst h; simp [natsBeq_refl]
  · cases e : natsBeq a b with
    | true => exact absurd (natsBeq_eq e) h
    | false => simp [h]
theorem Fld.beq_eq {f g : Fld} (h : Fld.beq f g = true) : f = g := by
  obtain ⟨a, b, c, d, e, p⟩ := f
  obtain ⟨a', b', c', d', e', p'⟩ := g
  unfold Fld.beq at h
  simp only at h
  split at h
  · rename_i h1 h2 h3 h4 h5 h6
    rw [natBeq h1, natBeq h2, natBeq h3, natBeq h4, natBeq h5, natBeq h6]
  · cases h
theorem fldsBeq_eq : ∀ {l m : List Fld}, fldsBeq l m = true → l = m
  | [], [], _ => rfl
  | [], _ :: _, h => by cases h
  | _ :: _, [], h => by cases h
  | f :: l, g :: m, h => by
    unfold fldsBeq at h
    split at h
    · rename_i h1; rw [Fld.beq_eq h1, fldsBeq_eq h]
    · cases h
theorem SE.beq_eq : ∀ {a b : SE}, SE.beq a b = true → a = b := by
  intro a
  induction a with
  | lit n =>
    intro b h
    cases b <;> simp only [SE.beq] at h <;> try cases h
    split at h
    · rw [natBeq h]
    · rw [natBeq h]
    · cases h
  | var i =>
    intro b h
    cases b <;> simp only [SE.beq] at h <;> try cases h
    rw [natBeq h]
  | bin o k a b iha ihb =>
    intro c h
    cases c <;> simp only [SE.beq] at h <;> try cases h
    split at h
    · split at h
      · split at h
        · rename_i h1 h2 _ h3; rw [h1, h2, iha h3, ihb h]
        · cases h
      · cases h
    · cases h
  | wrap k a ih =>
    intro c h
    cases c <;> simp only [SE.beq] at h <;> try cases h
    split at h
    · rename_i h1; rw [h1, ih h]
    · cases h
  | flds l c =>
    intro b h
    cases b <;> simp only [SE.beq] at h <;> try cases h
    split at h
    · rename_i h1; rw [fldsBeq_eq h1, natBeq h]
    · cases h
theorem SB.eqv_eq : ∀ {a b : SB}, SB.eqv a b = true → a = b := by
  intro a
  induction a with
  | lit n => intro b h; cases b <;> simp only [SB.eqv] at h <;> try cases h
             simp at h; rw [h]
  | var i => intro b h; cases b <;> simp only [SB.eqv] at h <;> try cases h
             rw [natBeq h]
  | cmp o a b =>
    intro c h
    cases c <;> simp only [SB.eqv] at h <;> try cases h
    split at h
    · split at h
      · rename_i h1 _ h2; rw [h1, SE.beq_eq h2, SE.beq_eq h]
      · cases h
    · cases h
  | not a ih => intro b h; cases b <;> simp only [SB.eqv] at h <;> try cases h
                rw [ih h]
  | beq a b iha ihb =>
    intro c h
    cases c <;> simp only [SB.eqv] at h <;> try cases h
    split at h
    · rename_i h1; rw [iha h1, ihb h]
    · cases h
  | and a b iha ihb =>
    intro c h
    cases c <;> simp only [SB.eqv] at h <;> try cases h
    split at h
    · rename_i h1; rw [iha h1, ihb h]
    · cases h
theorem CapI.beq_eq {a b : CapI} (h : CapI.beq a b = true) : a = b := by
  cases a <;> cases b <;> simp only [CapI.beq] at h <;> first | rw [natBeq h] | cases h
mutual
theorem AV.beq_eq : ∀ {a b : AV}, AV.beq a b = true → a = b
  | .bool a, b, h => by cases b <;> simp only [AV.beq] at h <;> first | rw [SB.eqv_eq h] | cases h
  | .int k n, b, h => by
    cases b <;> simp only [AV.beq] at h <;> try cases h
    split at h
    · split at h
      · rename_i h1 h2; rw [SE.beq_eq h1, h2]
      · cases h
    · cases h
  | .str a, b, h => by cases b <;> simp only [AV.beq] at h <;> first | rw [natsBeq_eq h] | cases h
  | .nilp, b, h => by cases b <;> simp only [AV.beq] at h <;> first | rfl | cases h
  | .ptr a c, b, h => by
    cases b <;> simp only [AV.beq] at h <;> try cases h
    split at h
    · rename_i h1; rw [natBeq h1, natBeq h]
    · cases h
  | .nils, b, h => by cases b <;> simp only [AV.beq] at h <;> first | rfl | cases h
  | .sl a c d e, b, h => by
    cases b <;> simp only [AV.beq] at h <;> try cases h
    split at h
    · rename_i h1 h2 h3; rw [natBeq h1, natBeq h2, natBeq h3, CapI.beq_eq h]
    · cases h
  | .emp, b, h => by cases b <;> simp only [AV.beq] at h <;> first | rfl | cases h
  | .slu a, b, h => by cases b <;> simp only [AV.beq] at h <;> first | rw [SE.beq_eq h] | cases h
  | .sla, b, h => by cases b <;> simp only [AV.beq] at h <;> first | rfl | cases h
  | .nilm, b, h => by cases b <;> simp only [AV.beq] at h <;> first | rfl | cases h
  | .map a, b, h => by cases b <;> simp only [AV.beq] at h <;> first | rw [natBeq h] | cases h
  | .func f l m, b, h => by
    cases b <;> simp only [AV.beq] at h <;> try cases h
    split at h
    · rename_i h1 h2; rw [natBeq h1, AV.beqL_eq h2, AV.beqL_eq h]
    · cases h
  | .nilf, b, h => by cases b <;> simp only [AV.beq] at h <;> first | rfl | cases h
  | .nili, b, h => by cases b <;> simp only [AV.beq] at h <;> first | rfl | cases h
  | .iface t v, b, h => by
    cases b <;> simp only [AV.beq] at h <;> try cases h
    split at h
    · rename_i h1; rw [natBeq h1, AV.beq_eq h]
    · cases h
  | .agg l, b, h => by cases b <;> simp only [AV.beq] at h <;> first | rw [AV.beqL_eq h] | cases h
  | .tup l, b, h => by cases b <;> simp only [AV.beq] at h <;> first | rw [AV.beqL_eq h] | cases h
theorem AV.beqL_eq : ∀ {a b : List AV}, AV.beqL a b = true → a = b
  | [], b, h => by cases b <;> simp only [AV.beqL] at h <;> first | rfl | cases h
  | x :: l, b, h => by
    cases b <;> simp only [AV.beqL] at h <;> try cases h
    split at h
    · rename_i h1; rw [AV.beq_eq h1, AV.beqL_eq h]
    · cases h
end

end Go.Dw
