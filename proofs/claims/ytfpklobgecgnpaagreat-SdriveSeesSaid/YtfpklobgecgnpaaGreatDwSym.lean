/-
  DwSym: symbolic integers as bits of natural variables: the operations on them are the model's.
-/
import Derived.Test.YtfpklobgecgnpaaGreatDwLaw
namespace Go.Dw
set_option linter.unusedSimpArgs false
set_option linter.unusedVariables false
noncomputable section

section
variable {ρ : Val}

theorem Fld.den_bit (f : Fld) (b : Nat) : (f.den ρ).testBit b = (decide (f.sh ≤ b) && (decide (b - f.sh < f.n) && (max f.lo (min (ρ.i f.i).toNat f.hi)).testBit (f.fr + (b - f.sh)))) := by
  unfold Fld.den
  rw [Nat.testBit_shiftLeft, Nat.testBit_mod_two_pow, Nat.testBit_shiftRight]

theorem truncF_den (W : Nat) : ∀ (l : List Fld) (c : Nat), fldsDen ρ (truncF W l) (c % 2 ^ W) = fldsDen ρ l c % 2 ^ W
  | [], c => rfl
  | f :: l, c => by
    have ih := truncF_den W l c
    apply Nat.eq_of_testBit_eq
    intro b
    have ihb := congrArg (fun x => x.testBit b) ih
    simp only [Nat.testBit_mod_two_pow] at ihb
    rw [Nat.testBit_mod_two_pow]
    unfold truncF
    cases h1 : Nat.blt f.sh W with
    | false =>
      have h1' : ¬ f.sh < W := fun hh => by rw [← Nat.blt_eq] at hh; rw [hh] at h1; cases h1
      simp only
      rw [ihb]
      show _ = (decide (b < W) && (f.den ρ ||| fldsDen ρ l c).testBit b)
      rw [Nat.testBit_or, Fld.den_bit]
      by_cases hb : b < W
      · have : ¬ f.sh ≤ b := by omega
        simp [hb, this]
      · simp [hb]
    | true =>
      rw [Nat.blt_eq] at h1
      cases h2 : Nat.ble (Nat.add f.sh f.n) W with
      | true =>
        have h2 : f.sh + f.n ≤ W := Nat.le_of_ble_eq_true h2
        show (f.den ρ ||| fldsDen ρ (truncF W l) (c % 2 ^ W)).testBit b = (decide (b < W) && (f.den ρ ||| fldsDen ρ l c).testBit b)
        rw [Nat.testBit_or, Nat.testBit_or, ihb, Fld.den_bit]
        by_cases hb : b < W
        · simp [hb]
        · have : ¬ b - f.sh < f.n := by omega
          simp [hb, this]
      | false =>
        have h2 : ¬ f.sh + f.n ≤ W := fun hh => by
          have e : Nat.ble (Nat.add f.sh f.n) W = true := Nat.ble_eq_true_of_le hh
          rw [e] at h2; cases h2
        show (Fld.den ρ ⟨f.i, f.lo, f.hi, f.fr, W - f.sh, f.sh⟩ ||| fldsDen ρ (truncF W l) (c % 2 ^ W)).testBit b = (decide (b < W) && (f.den ρ ||| fldsDen ρ l c).testBit b)
        rw [Nat.testBit_or, Nat.testBit_or, ihb, Fld.den_bit, Fld.den_bit]
        simp only
        by_cases hb : b < W
        · by_cases hs : f.sh ≤ b
          · have e1 : b - f.sh < W - f.sh := by omega
            have e2 : b - f.sh < f.n := by omega
            simp [hb, hs, e1, e2]
          · simp [hb, hs]
        · have : ¬ b - f.sh < W - f.sh := by omega
          simp [hb, this]

theorem shrFs_den (m : Nat) : ∀ (l : List Fld) (c : Nat), fldsDen ρ (shrFs m l) (c / 2 ^ m) = fldsDen ρ l c / 2 ^ m
  | [], c => rfl
  | f :: l, c => by
    have ih := shrFs_den m l c
    apply Nat.eq_of_testBit_eq
    intro b
    have ihb := congrArg (fun x => x.testBit b) ih
    simp only [← Nat.shiftRight_eq_div_pow, Nat.testBit_shiftRight] at ihb ⊢
    unfold shrFs
    cases h1 : Nat.ble m f.sh with
    | true =>
      have h1 : m ≤ f.sh := Nat.le_of_ble_eq_true h1
      show (Fld.den ρ ⟨f.i, f.lo, f.hi, f.fr, f.n, f.sh - m⟩ ||| fldsDen ρ (shrFs m l) (c >>> m)).testBit b = (f.den ρ ||| fldsDen ρ l c).testBit (m + b)
      rw [Nat.testBit_or, Nat.testBit_or, ihb, Fld.den_bit, Fld.den_bit]
      simp only
      have e1 : (f.sh - m ≤ b) ↔ (f.sh ≤ m + b) := by omega
      by_cases hs : f.sh ≤ m + b
      · have e2 : b - (f.sh - m) = m + b - f.sh := by omega
        simp [e1, hs, e2]
      · simp [e1, hs]
    | false =>
      have h1' : ¬ m ≤ f.sh := fun hh => by rw [Nat.ble_eq_true_of_le hh] at h1; cases h1
      cases h2 : Nat.blt m (Nat.add f.sh f.n) with
      | true =>
        have h2 : m < f.sh + f.n := by rw [Nat.blt_eq] at h2; exact h2
        show (Fld.den ρ ⟨f.i, f.lo, f.hi, f.fr + (m - f.sh), f.n - (m - f.sh), 0⟩ ||| fldsDen ρ (shrFs m l) (c >>> m)).testBit b = (f.den ρ ||| fldsDen ρ l c).testBit (m + b)
        rw [Nat.testBit_or, Nat.testBit_or, ihb, Fld.den_bit, Fld.den_bit]
        simp only
        have e1 : f.sh ≤ m + b := by omega
        have e2 : (b < f.n - (m - f.sh)) ↔ (m + b - f.sh < f.n) := by omega
        have e3 : f.fr + (m - f.sh) + b = f.fr + (m + b - f.sh) := by omega
        simp [e1, e2, e3]
      | false =>
        have h2' : ¬ m < f.sh + f.n := fun hh => by rw [← Nat.blt_eq] at hh; change Nat.blt m (Nat.add f.sh f.n) = true at hh; rw [hh] at h2; cases h2
        show (fldsDen ρ (shrFs m l) (c >>> m)).testBit b = (f.den ρ ||| fldsDen ρ l c).testBit (m + b)
        rw [Nat.testBit_or, ihb, Fld.den_bit]
        have : ¬ m + b - f.sh < f.n := by omega
        simp [this]

theorem shlFs_den (m : Nat) : ∀ (l : List Fld) (c : Nat), fldsDen ρ (shlFs m l) (c * 2 ^ m) = fldsDen ρ l c * 2 ^ m
  | [], c => rfl
  | f :: l, c => by
    have ih := shlFs_den m l c
    apply Nat.eq_of_testBit_eq
    intro b
    have ihb := congrArg (fun x => x.testBit b) ih
    simp only [← Nat.shiftLeft_eq, Nat.testBit_shiftLeft] at ihb ⊢
    show (Fld.den ρ ⟨f.i, f.lo, f.hi, f.fr, f.n, f.sh + m⟩ ||| fldsDen ρ (shlFs m l) (c <<< m)).testBit b = (decide (b ≥ m) && (f.den ρ ||| fldsDen ρ l c).testBit (b - m))
    rw [Nat.testBit_or, Nat.testBit_or, ihb, Fld.den_bit, Fld.den_bit]
    simp only
    by_cases hm : m ≤ b
    · have e1 : (f.sh + m ≤ b) ↔ (f.sh ≤ b - m) := by omega
      have e2 : b - (f.sh + m) = b - m - f.sh := by omega
      simp [hm, e1, e2]
    · have e1 : ¬ f.sh + m ≤ b := by omega
      simp [hm, e1]

theorem fuse_den {g f h : Fld} (hf : fuse g f = some h) : h.den ρ = g.den ρ ||| f.den ρ := by
  unfold fuse at hf
  split at hf
  case h_2 => cases hf
  rename_i h1 h2 h3 h4 h5
  cases hf
  have h1 := natBeq h1
  have h2 := natBeq h2
  have h3 := natBeq h3
  have h4 : g.fr + g.n = f.fr := natBeq h4
  have h5 : g.sh + g.n = f.sh := natBeq h5
  apply Nat.eq_of_testBit_eq
  intro b
  rw [Nat.testBit_or, Fld.den_bit, Fld.den_bit, Fld.den_bit]
  simp only
  rw [← h1, ← h2, ← h3, ← h4, ← h5]
  by_cases hs : g.sh ≤ b
  · by_cases hn : b - g.sh < g.n
    · have e1 : b - g.sh < g.n + f.n := by omega
      have e2 : ¬ g.sh + g.n ≤ b := by omega
      simp [hs, hn, e1, e2]
    · have e2 : g.sh + g.n ≤ b := by omega
      have e1 : (b - g.sh < g.n + f.n) ↔ (b - (g.sh + g.n) < f.n) := by omega
      have e3 : g.fr + g.n + (b - (g.sh + g.n)) = g.fr + (b - g.sh) := by omega
      simp [hs, hn, e1, e2, e3]
  · have e2 : ¬ g.sh + g.n ≤ b := by omega
    simp [hs, e2]

theorem joinF_den : ∀ (l : List Fld) (f : Fld) (c : Nat), fldsDen ρ (joinF l f) c = f.den ρ ||| fldsDen ρ l c
  | [], f, c => rfl
  | g :: l, f, c => by
    unfold joinF
    split
    · rename_i h hh
      rw [joinF_den l h c, fuse_den hh]
      show g.den ρ ||| f.den ρ ||| fldsDen ρ l c = f.den ρ ||| (g.den ρ ||| fldsDen ρ l c)
      rw [← Nat.or_assoc, Nat.or_comm (f.den ρ)]
    · split
      · rename_i h hh
        rw [joinF_den l h c, fuse_den hh]
        show f.den ρ ||| g.den ρ ||| fldsDen ρ l c = f.den ρ ||| (g.den ρ ||| fldsDen ρ l c)
        rw [Nat.or_assoc]
      · show g.den ρ ||| fldsDen ρ (joinF l f) c = f.den ρ ||| (g.den ρ ||| fldsDen ρ l c)
        rw [joinF_den l f c, ← Nat.or_assoc, ← Nat.or_assoc, Nat.or_comm (g.den ρ)]
theorem fldsDen_c : ∀ (l : List Fld) (c d : Nat), fldsDen ρ l (c ||| d) = fldsDen ρ l c ||| d
  | [], c, d => rfl
  | f :: l, c, d => by
    show f.den ρ ||| fldsDen ρ l (c ||| d) = f.den ρ ||| fldsDen ρ l c ||| d
    rw [fldsDen_c l c d, Nat.or_assoc]
theorem joinFs_den : ∀ (m l : List Fld) (c d : Nat), fldsDen ρ (joinFs l m) (c ||| d) = fldsDen ρ l c ||| fldsDen ρ m d
  | [], l, c, d => fldsDen_c l c d
  | f :: m, l, c, d => by
    unfold joinFs
    rw [joinFs_den m (joinF l f) c d, joinF_den]
    show f.den ρ ||| fldsDen ρ l c ||| fldsDen ρ m d = fldsDen ρ l c ||| (f.den ρ ||| fldsDen ρ m d)
    rw [← Nat.or_assoc, Nat.or_comm (f.den ρ)]

theorem pieces_bit (keep : Nat → Bool) (f : Fld) : ∀ (k : Nat), k ≤ f.n → ∀ b, (fldsDen ρ (pieces keep f k) 0).testBit b = (keep b && (decide (f.sh ≤ b) && (decide (b - f.sh < k) && (max f.lo (min (ρ.i f.i).toNat f.hi)).testBit (f.fr + (b - f.sh)))))
  | 0, _, b => by simp [pieces, fldsDen]
  | k + 1, hk, b => by
    have ih := pieces_bit keep f k (by omega) b
    unfold pieces
    by_cases he : b = f.sh + k
    · subst he
      have e0 : ¬ (f.sh + k - f.sh < k) := by omega
      have e1 : f.sh + k - f.sh < k + 1 := by omega
      simp only [e0, decide_false, Bool.false_and, Bool.and_false] at ih
      cases hkeep : keep (Nat.add f.sh k) with
      | true =>
        have hkeep : keep (f.sh + k) = true := hkeep
        show (Fld.den ρ ⟨f.i, f.lo, f.hi, f.fr + k, 1, f.sh + k⟩ ||| fldsDen ρ (pieces keep f k) 0).testBit (f.sh + k) = _
        rw [Nat.testBit_or, ih, Fld.den_bit]
        simp [hkeep]
      | false =>
        have hkeep : keep (f.sh + k) = false := hkeep
        simp only
        rw [ih]; simp [hkeep]
    · have e1 : (b - f.sh < k + 1 ∧ f.sh ≤ b) ↔ (b - f.sh < k ∧ f.sh ≤ b) := by omega
      have hr : (keep b && (decide (f.sh ≤ b) && (decide (b - f.sh < k + 1) && (max f.lo (min (ρ.i f.i).toNat f.hi)).testBit (f.fr + (b - f.sh))))) = (keep b && (decide (f.sh ≤ b) && (decide (b - f.sh < k) && (max f.lo (min (ρ.i f.i).toNat f.hi)).testBit (f.fr + (b - f.sh))))) := by
        by_cases hs : f.sh ≤ b
        · have : (b - f.sh < k + 1) ↔ (b - f.sh < k) := by omega
          simp [hs, this]
        · simp [hs]
      rw [hr]
      cases hkeep : keep (Nat.add f.sh k) with
      | true =>
        show (Fld.den ρ ⟨f.i, f.lo, f.hi, f.fr + k, 1, f.sh + k⟩ ||| fldsDen ρ (pieces keep f k) 0).testBit b = _
        rw [Nat.testBit_or, ih, Fld.den_bit]
        simp only
        by_cases hs : f.sh + k ≤ b
        · have : ¬ b - (f.sh + k) < 1 := by omega
          simp [hs, this]
        · simp [hs]
      | false => exact ih
theorem maskFs_den (keep : Nat → Bool) (c d : Nat) (hd : ∀ b, d.testBit b = (keep b && c.testBit b)) : ∀ (l : List Fld) (b : Nat), (fldsDen ρ (maskFs keep l) d).testBit b = (keep b && (fldsDen ρ l c).testBit b)
  | [], b => hd b
  | f :: l, b => by
    unfold maskFs
    have e := joinFs_den (ρ := ρ) (pieces keep f f.n) (maskFs keep l) d 0
    rw [Nat.or_zero] at e
    rw [e, Nat.testBit_or, maskFs_den keep c d hd l b, pieces_bit keep f f.n (Nat.le_refl _) b]
    show _ = (keep b && (f.den ρ ||| fldsDen ρ l c).testBit b)
    rw [Nat.testBit_or, Fld.den_bit]
    cases keep b <;> simp [Bool.or_comm]

theorem fits_lt {W : Nat} : ∀ {l : List Fld} {c : Nat}, fits W l = true → c < 2 ^ W → fldsDen ρ l c < 2 ^ W
  | [], c, _, hc => hc
  | f :: l, c, h, hc => by
    unfold fits at h
    split at h
    · rename_i hb
      have hb : f.sh + f.n ≤ W := Nat.le_of_ble_eq_true hb
      refine Nat.or_lt_two_pow ?_ (fits_lt h hc)
      refine Nat.lt_pow_two_of_testBit _ fun i hi => ?_
      rw [Fld.den_bit]
      have : ¬ i - f.sh < f.n := by omega
      simp [this]
    · cases h
theorem fitsC_lt {W : Nat} {l : List Fld} {c : Nat} (h : fitsC W l c = true) : fldsDen ρ l c < 2 ^ W := by
  unfold fitsC at h
  split at h
  · rename_i hc
    rw [Nat.blt_eq] at hc
    exact fits_lt h hc
  · cases h

theorem toF_den {a : SE} {l : List Fld} {c : Nat} (h : toF a = some (l, c)) : a.den ρ = Int.ofNat (fldsDen ρ l c) := by
  unfold toF at h
  split at h
  · cases h; rfl
  · cases h; rfl
  · cases h
theorem ofF_den (l : List Fld) (c : Nat) : (ofF l c).den ρ = Int.ofNat (fldsDen ρ l c) := by
  unfold ofF
  split
  · rw [forceN_eq]; rfl
  · rw [forceN_eq]; rfl

theorem topOf_w (k : IntKind) : topOf k = 2 ^ wOf k := by cases k <;> rfl
theorem wOf_bits {k : IntKind} (h : sgn k = false) : wOf k = k.bits := by cases k <;> first | rfl | cases h
theorem wrap_small {k : IntKind} {n : Nat} (h : n < 2 ^ wOf k) : k.wrap (Int.ofNat n) = Int.ofNat n := by
  rw [← wrapF_eq]
  have : Nat.blt n (topOf k) = true := by rw [Nat.blt_eq, topOf_w]; exact h
  simp only [wrapF, this]
theorem wrap_unsigned {k : IntKind} (h : sgn k = false) (n : Nat) : k.wrap (Int.ofNat n) = Int.ofNat (n % 2 ^ wOf k) := by
  cases k <;> first | (cases h; done) | skip
  all_goals
    simp [IntKind.wrap, IntKind.signed, IntKind.bits, wOf]

theorem wrap_range {k : IntKind} (h : sgn k = false) (n : Int) : ∃ x : Nat, k.wrap n = Int.ofNat x ∧ 0 ≤ x ∧ x ≤ 2 ^ wOf k - 1 := by
  refine ⟨(k.wrap n).toNat, ?_, Nat.zero_le _, ?_⟩
  all_goals
    cases k <;> first | (cases h; done) | skip
    all_goals
      simp [IntKind.wrap, IntKind.signed, IntKind.bits, wOf]
      omega
theorem topB_den {k : IntKind} {p q : Nat} (h : topB k = some (p, q)) (n : Int) : ∃ x : Nat, k.wrap n = Int.ofNat x ∧ p ≤ x ∧ x ≤ q := by
  unfold topB at h
  split at h
  · cases h
  · rename_i hk
    cases h
    exact wrap_range hk n
theorem wrap_neg {k : IntKind} (h : sgn k = false) {x y : Nat} (hlt : x < y) (hy : y ≤ 2 ^ wOf k) : k.wrap (Int.ofNat x - Int.ofNat y) = Int.ofNat (2 ^ wOf k + x - y) := by
  have hx : 2 ^ wOf k + x - y < 2 ^ wOf k := by omega
  have e : Int.ofNat x - Int.ofNat y = Int.ofNat (2 ^ wOf k + x - y) - (2 : Int) ^ wOf k := by
    have : ((2 ^ wOf k : Nat) : Int) = (2 : Int) ^ wOf k := by simp
    simp only [Int.ofNat_eq_natCast]
    omega
  rw [e, ← wrap_small hx]
  cases k <;> first | (cases h; done) | skip
  all_goals
    simp [IntKind.wrap, IntKind.signed, IntKind.bits, wOf]
theorem bnd_den : ∀ {a : SE} {p q : Nat}, bnd a = some (p, q) → ∃ x : Nat, a.den ρ = Int.ofNat x ∧ p ≤ x ∧ x ≤ q := by
  intro a
  induction a with
  | bin o k x y ihx ihy =>
    intro p q h
    cases o
    case add =>
      unfold bnd at h
      split at h
      · rename_i p1 q1 r1 s1 hx hy
        obtain ⟨u, eu, u1, u2⟩ := ihx hx
        obtain ⟨v, ev, v1, v2⟩ := ihy hy
        split at h
        · rename_i hlt
          rw [Nat.blt_eq] at hlt
          have hlt : q1 + s1 < 2 ^ wOf k := hlt
          cases h
          refine ⟨u + v, ?_, by show p1 + r1 ≤ u + v; omega, by show u + v ≤ q1 + s1; omega⟩
          show k.wrap (SE.den ρ x + SE.den ρ y) = _
          rw [eu, ev]
          exact wrap_small (n := u + v) (by omega)
        · exact topB_den h _
      · exact topB_den h _
    case sub =>
      unfold bnd at h
      split at h
      · rename_i p1 q1 r1 s1 hx hy
        obtain ⟨u, eu, u1, u2⟩ := ihx hx
        obtain ⟨v, ev, v1, v2⟩ := ihy hy
        split at h
        · rename_i hle hlt
          rw [Nat.blt_eq] at hlt
          have hlt : q1 < 2 ^ wOf k := hlt
          have hle := Nat.le_of_ble_eq_true hle
          cases h
          refine ⟨u - v, ?_, by show p1 - s1 ≤ u - v; omega, by show u - v ≤ q1 - r1; omega⟩
          show k.wrap (SE.den ρ x - SE.den ρ y) = _
          rw [eu, ev]
          have e : Int.ofNat u - Int.ofNat v = Int.ofNat (u - v) := by simp only [Int.ofNat_eq_natCast]; omega
          rw [e]
          exact wrap_small (by omega)
        · split at h
          · rename_i hlt hle hk
            rw [Nat.blt_eq] at hlt
            have hle := Nat.le_of_ble_eq_true hle
            have hle : s1 ≤ 2 ^ wOf k := hle
            cases h
            refine ⟨2 ^ wOf k + u - v, ?_, by show 2 ^ wOf k + p1 - s1 ≤ _; omega, by show _ ≤ 2 ^ wOf k + q1 - r1; omega⟩
            show k.wrap (SE.den ρ x - SE.den ρ y) = _
            rw [eu, ev]
            exact wrap_neg hk (by omega) (by omega)
          · exact topB_den h _
      · exact topB_den h _
    all_goals (unfold bnd at h; cases h)
  | var i => intro p q h; unfold bnd at h; cases h
  | wrap k x ih => intro p q h; unfold bnd at h; exact topB_den h _
  | lit n =>
    intro p q h
    cases n with
    | ofNat n => unfold bnd at h; cases h; exact ⟨_, rfl, Nat.le_refl _, Nat.le_refl _⟩
    | negSucc n => unfold bnd at h; cases h
  | flds l c =>
    intro p q h
    unfold bnd at h
    split at h <;> first | (rename_i heq; cases heq; done) | skip
    · rename_i f heq
      cases heq
      split at h
      · rename_i h1 h2 h3
        cases h
        have h1 := natBeq h1
        have h2 := natBeq h2
        rw [Nat.blt_eq] at h3
        refine ⟨_, rfl, ?_⟩
        have e : fldsDen ρ [f] 0 = max f.lo (min (ρ.i f.i).toNat f.hi) := by
          show f.den ρ ||| 0 = _
          rw [Nat.or_zero]
          unfold Fld.den
          rw [h1, h2]
          simp only [Nat.shiftRight_zero, Nat.shiftLeft_zero]
          refine Nat.mod_eq_of_lt (Nat.lt_of_le_of_lt ?_ h3)
          show max f.lo (min (ρ.i f.i).toNat f.hi) ≤ max f.lo f.hi
          omega
        rw [e]
        have e2 : Nat.max f.lo f.hi = max f.lo f.hi := rfl
        rw [e2]
        omega
      · split at h
        · rename_i hf
          cases h
          have := fitsC_lt (ρ := ρ) hf
          exact ⟨_, rfl, Nat.zero_le _, by omega⟩
        · cases h
    · cases h
theorem sWrapB_den (k : IntKind) (a : SE) : (sWrapB k a).den ρ = k.wrap (a.den ρ) := by
  unfold sWrapB
  split
  · rename_i p q hb
    split
    · rename_i hq
      rw [Nat.blt_eq] at hq
      obtain ⟨x, e, _, h2⟩ := bnd_den (ρ := ρ) hb
      rw [e, wrap_small (Nat.lt_of_le_of_lt h2 hq)]
    · rfl
  · rfl

theorem sWrap_den (k : IntKind) (a : SE) : (sWrap k a).den ρ = k.wrap (a.den ρ) := by
  unfold sWrap
  split
  · rename_i l c
    split
    · split
      · rename_i h; exact (wrap_small (fitsC_lt h)).symm
      · rfl
    · rename_i h
      rw [ofF_den]
      show Int.ofNat (fldsDen ρ (truncF (wOf k) l) (c % 2 ^ wOf k)) = k.wrap (Int.ofNat (fldsDen ρ l c))
      rw [truncF_den, wrap_unsigned h]
  · exact sWrapB_den k _

theorem bitsF_nat {o : BinOp} (ho : o = .and ∨ o = .or ∨ o = .xor ∨ o = .andNot) {k : IntKind} {x y : Nat} (hx : x < 2 ^ wOf k) (hy : y < 2 ^ wOf k) : bitsOp o k (Int.ofNat x) (Int.ofNat y) = bitsF.nat o x y := by
  rw [← bitsF_eq o ho]
  have e1 : Nat.blt x (topOf k) = true := by rw [Nat.blt_eq, topOf_w]; exact hx
  have e2 : Nat.blt y (topOf k) = true := by rw [Nat.blt_eq, topOf_w]; exact hy
  simp only [bitsF, e1, e2]

theorem sOr_den (k : IntKind) {a b : SE} {l l' : List Fld} {c c' : Nat} (ha : a.den ρ = Int.ofNat (fldsDen ρ l c)) (hb : b.den ρ = Int.ofNat (fldsDen ρ l' c')) : (sOr k a b l c l' c').den ρ = intOp .or k (a.den ρ) (b.den ρ) := by
  unfold sOr
  split
  · rename_i h1 h2
    rw [ofF_den, ha, hb]
    show Int.ofNat (fldsDen ρ (joinFs l l') (c ||| c')) = bitsOp .or k _ _
    rw [bitsF_nat (by simp) (fitsC_lt h1) (fitsC_lt h2), joinFs_den]
    rfl
  · rfl
theorem sAnd_den (k : IntKind) {a b : SE} {l : List Fld} {c m : Nat} (ha : a.den ρ = Int.ofNat (fldsDen ρ l c)) (hb : b.den ρ = Int.ofNat m) : (sAnd k a b l c m).den ρ = intOp .and k (a.den ρ) (b.den ρ) := by
  unfold sAnd
  split
  · rename_i h1 h2
    rw [Nat.blt_eq] at h2
    rw [ofF_den, ha, hb]
    show Int.ofNat (fldsDen ρ (maskFs (Nat.testBit m) l) (c &&& m)) = bitsOp .and k _ _
    rw [bitsF_nat (by simp) (fitsC_lt h1) h2]
    show Int.ofNat _ = Int.ofNat (fldsDen ρ l c &&& m)
    congr 1
    apply Nat.eq_of_testBit_eq
    intro b
    rw [maskFs_den (Nat.testBit m) c (c &&& m) (fun b => by rw [Nat.testBit_and, Bool.and_comm]) l b, Nat.testBit_and, Bool.and_comm]
  · rfl
theorem sAndNot_den (k : IntKind) {a b : SE} {l : List Fld} {c m : Nat} (ha : a.den ρ = Int.ofNat (fldsDen ρ l c)) (hb : b.den ρ = Int.ofNat m) : (sAndNot k a b l c m).den ρ = intOp .andNot k (a.den ρ) (b.den ρ) := by
  unfold sAndNot
  split
  · rename_i h1 h2
    rw [Nat.blt_eq] at h2
    rw [ofF_den, ha, hb]
    show Int.ofNat (fldsDen ρ (maskFs _ l) (c ^^^ (c &&& m))) = bitsOp .andNot k _ _
    rw [bitsF_nat (by simp) (fitsC_lt h1) h2]
    show Int.ofNat _ = Int.ofNat (fldsDen ρ l c ^^^ (fldsDen ρ l c &&& m))
    congr 1
    apply Nat.eq_of_testBit_eq
    intro b
    rw [maskFs_den _ c (c ^^^ (c &&& m)) (fun b => by rw [Nat.testBit_xor, Nat.testBit_and]; cases m.testBit b <;> cases c.testBit b <;> rfl) l b, Nat.testBit_xor, Nat.testBit_and]
    cases m.testBit b <;> cases (fldsDen ρ l c).testBit b <;> rfl
  · rfl
theorem sShl_den (k : IntKind) {a b : SE} {l : List Fld} {c n : Nat} (ha : a.den ρ = Int.ofNat (fldsDen ρ l c)) (hb : b.den ρ = Int.ofNat n) : (sShl k a b l c n).den ρ = intOp .shl k (a.den ρ) (b.den ρ) := by
  unfold sShl
  split
  · rename_i h1 h2
    have h1 : n ≤ k.bits := Nat.le_of_ble_eq_true h1
    rw [ofF_den, ha, hb]
    show Int.ofNat (fldsDen ρ (truncF (wOf k) (shlFs n l)) (c * 2 ^ n % 2 ^ wOf k)) = k.wrap (Int.ofNat (fldsDen ρ l c) * 2 ^ (min (Int.ofNat n).toNat k.bits))
    have e : (Int.ofNat (fldsDen ρ l c) * 2 ^ (min (Int.ofNat n).toNat k.bits) : Int) = Int.ofNat (fldsDen ρ l c * 2 ^ n) := by
      have : min (Int.ofNat n).toNat k.bits = n := by simp; omega
      rw [this]
      simp
    rw [e, wrap_unsigned h2, truncF_den, shlFs_den]
  · rfl
theorem sShr_den (k : IntKind) {a b : SE} {l : List Fld} {c n : Nat} (ha : a.den ρ = Int.ofNat (fldsDen ρ l c)) (hb : b.den ρ = Int.ofNat n) : (sShr k a b l c n).den ρ = intOp .shr k (a.den ρ) (b.den ρ) := by
  unfold sShr
  split
  · rename_i h1
    have h1 : n ≤ k.bits := Nat.le_of_ble_eq_true h1
    rw [ofF_den, ha, hb]
    show Int.ofNat (fldsDen ρ (shrFs n l) (c / 2 ^ n)) = (Int.ofNat (fldsDen ρ l c)).fdiv (2 ^ (min (Int.ofNat n).toNat k.bits))
    have e1 : min (Int.ofNat n).toNat k.bits = n := by simp; omega
    rw [e1, shrFs_den, Int.fdiv_eq_ediv_of_nonneg _ (by exact_mod_cast Nat.zero_le _)]
    simp
  · rfl

theorem sId_den {o : BinOp} (ho : o = .add ∨ o = .sub) (k : IntKind) {a b : SE} {l l' : List Fld} {c c' : Nat} (ha : a.den ρ = Int.ofNat (fldsDen ρ l c)) (hb : b.den ρ = Int.ofNat (fldsDen ρ l' c')) : (sId o k a b l c l' c').den ρ = intOp o k (a.den ρ) (b.den ρ) := by
  unfold sId
  split
  · split
    · rename_i h1 h2
      have h1 := natBeq h1
      subst h1
      have hb : b.den ρ = 0 := hb
      rw [ofF_den, ha, hb]
      rcases ho with rfl | rfl
      · show _ = k.wrap (Int.ofNat (fldsDen ρ l c) + 0)
        rw [Int.add_zero, wrap_small (fitsC_lt h2)]
      · show _ = k.wrap (Int.ofNat (fldsDen ρ l c) - 0)
        rw [Int.sub_zero, wrap_small (fitsC_lt h2)]
    · rfl
  · rfl
theorem above_mod {m : Nat} : ∀ {l : List Fld} {c : Nat}, above m l = true → c % 2 ^ m = 0 → fldsDen ρ l c % 2 ^ m = 0
  | [], c, _, h => h
  | f :: l, c, ha, hc => by
    unfold above at ha
    split at ha
    · rename_i hb
      have hb := Nat.le_of_ble_eq_true hb
      have ih := above_mod ha hc
      apply Nat.eq_of_testBit_eq
      intro b
      have ihb := congrArg (fun x => x.testBit b) ih
      simp only [Nat.testBit_mod_two_pow, Nat.zero_testBit] at ihb
      rw [Nat.testBit_mod_two_pow, Nat.zero_testBit]
      show (decide (b < m) && (f.den ρ ||| fldsDen ρ l c).testBit b) = false
      rw [Nat.testBit_or, Fld.den_bit]
      by_cases hlt : b < m
      · have : ¬ f.sh ≤ b := by omega
        simp only [hlt, decide_true, Bool.true_and] at ihb
        simp [this, ihb]
      · simp [hlt]
    · cases ha
theorem sAdd_den (k : IntKind) {a b : SE} {l l' : List Fld} {c c' : Nat} (ha : a.den ρ = Int.ofNat (fldsDen ρ l c)) (hb : b.den ρ = Int.ofNat (fldsDen ρ l' c')) : (sAdd k a b l c l' c').den ρ = intOp .add k (a.den ρ) (b.den ρ) := by
  unfold sAdd
  split
  case h_2 => rfl
  rename_i g1 g2
  split
  case h_2 => rfl
  rename_i h1 h2 h3
  rw [ofF_den, ha, hb]
  have h3 := natBeq h3
  have hlt := fitsC_lt (ρ := ρ) h1
  have hmod := above_mod (ρ := ρ) h2 h3
  have hsum : fldsDen ρ (joinFs l l') (Nat.lor c c') = fldsDen ρ l c + fldsDen ρ l' c' := by
    show fldsDen ρ (joinFs l l') (c ||| c') = _
    rw [joinFs_den]
    have e : fldsDen ρ l' c' = (fldsDen ρ l' c' / 2 ^ width l c) <<< width l c := by
      rw [Nat.shiftLeft_eq]
      have := Nat.div_add_mod (fldsDen ρ l' c') (2 ^ width l c)
      rw [hmod] at this
      rw [Nat.mul_comm]
      omega
    rw [e, Nat.or_comm, ← Nat.shiftLeft_add_eq_or_of_lt hlt, Nat.add_comm]
  have hw : fldsDen ρ (joinFs l l') (Nat.lor c c') < 2 ^ wOf k := by
    show fldsDen ρ (joinFs l l') (c ||| c') < _
    rw [joinFs_den]
    exact Nat.or_lt_two_pow (fitsC_lt g1) (fitsC_lt g2)
  show _ = k.wrap (Int.ofNat (fldsDen ρ l c) + Int.ofNat (fldsDen ρ l' c'))
  rw [show (Int.ofNat (fldsDen ρ l c) + Int.ofNat (fldsDen ρ l' c') : Int) = Int.ofNat (fldsDen ρ l c + fldsDen ρ l' c') from rfl, ← hsum, wrap_small hw]
theorem sQuo_den (k : IntKind) {a b : SE} {l : List Fld} {c n : Nat} (ha : a.den ρ = Int.ofNat (fldsDen ρ l c)) (hb : b.den ρ = Int.ofNat n) : (sQuo k a b l c n).den ρ = intOp .quo k (a.den ρ) (b.den ρ) := by
  unfold sQuo
  split
  case h_2 => rfl
  rename_i h1 h2
  have h2 : n = 2 ^ Nat.log2 n := natBeq h2
  rw [ofF_den, ha, hb]
  show Int.ofNat (fldsDen ρ (shrFs (Nat.log2 n) l) (c / 2 ^ Nat.log2 n)) = k.wrap ((Int.ofNat (fldsDen ρ l c)).tdiv (Int.ofNat n))
  rw [shrFs_den, ← h2]
  show _ = k.wrap (Int.ofNat (fldsDen ρ l c / n))
  rw [wrap_small (Nat.lt_of_le_of_lt (Nat.div_le_self _ _) (fitsC_lt h1))]
theorem sRem_den (k : IntKind) {a b : SE} {l : List Fld} {c n : Nat} (ha : a.den ρ = Int.ofNat (fldsDen ρ l c)) (hb : b.den ρ = Int.ofNat n) : (sRem k a b l c n).den ρ = intOp .rem k (a.den ρ) (b.den ρ) := by
  unfold sRem
  split
  case h_2 => rfl
  rename_i h2
  have h2 : n = 2 ^ Nat.log2 n := natBeq h2
  rw [ofF_den, ha, hb]
  show Int.ofNat (fldsDen ρ (truncF (Nat.log2 n) l) (c % 2 ^ Nat.log2 n)) = (Int.ofNat (fldsDen ρ l c)).tmod (Int.ofNat n)
  rw [truncF_den, ← h2]
  rfl
theorem sBin_den (o : BinOp) (k : IntKind) (a b : SE) : (sBin o k a b).den ρ = intOp o k (a.den ρ) (b.den ρ) := by
  unfold sBin
  split
  case h_2 => rfl
  rename_i l c l' c' ha hb
  have ha := toF_den (ρ := ρ) ha
  have hb := toF_den (ρ := ρ) hb
  split
  · exact sOr_den k ha hb
  · split
    · exact sAnd_den k ha hb
    · split
      · have ha : a.den ρ = Int.ofNat c := ha
        rw [sAnd_den k hb ha]
        rw [ha, hb]
        show bitsOp .and k _ _ = bitsOp .and k _ _
        simp only [bitsOp, BitVec.and_comm]
      · rfl
  · split
    · exact sAndNot_den k ha hb
    · rfl
  · split
    · exact sShl_den k ha hb
    · rfl
  · split
    · exact sShr_den k ha hb
    · rfl
  · exact sAdd_den k ha hb
  · split
    · exact sQuo_den k ha hb
    · rfl
  · split
    · exact sRem_den k ha hb
    · rfl
  · exact sId_den (.inr rfl) k ha hb
  · rfl

theorem sCmpB_den (o : BinOp) (a b : SE) : (sCmpB o a b).den ρ = cmpOp o (a.den ρ) (b.den ρ) := by
  unfold sCmpB
  split
  case h_2 => rfl
  rename_i p q r s ha hb
  obtain ⟨x, ex, h1, h2⟩ := bnd_den (ρ := ρ) ha
  obtain ⟨y, ey, h3, h4⟩ := bnd_den (ρ := ρ) hb
  have blt : ∀ {u v : Nat}, Nat.blt u v = true → u < v := fun h => by rw [Nat.blt_eq] at h; exact h
  split
  · split
    · rfl
    · rename_i hne
      have hxy : x ≠ y := fun e => by
        subst e
        refine hne ?_ ?_
        · cases h : Nat.blt q r with
          | false => rfl
          | true => have := blt h; omega
        · cases h : Nat.blt s p with
          | false => rfl
          | true => have := blt h; omega
      simp [SB.den, cmpOp, ex, ey]
      omega
  · split
    · rfl
    · rename_i hne
      have hxy : x ≠ y := fun e => by
        subst e
        refine hne ?_ ?_
        · cases h : Nat.blt q r with
          | false => rfl
          | true => have := blt h; omega
        · cases h : Nat.blt s p with
          | false => rfl
          | true => have := blt h; omega
      simp [SB.den, cmpOp, ex, ey]
      omega
  all_goals
    first
      | rfl
      | (split
         · rename_i h
           first | have := blt h | have := Nat.le_of_ble_eq_true h
           simp [SB.den, cmpOp, ex, ey]
           omega
         · rename_i h _
           first | have := blt h | have := Nat.le_of_ble_eq_true h
           simp [SB.den, cmpOp, ex, ey]
           omega
         · rfl)

theorem sCmp_den (o : BinOp) (a b : SE) : (sCmp o a b).den ρ = cmpOp o (a.den ρ) (b.den ρ) := by
  unfold sCmp
  split
  · rename_i h
    rw [SE.beq_eq h]
    cases o <;> simp [SB.den, selfCmp, cmpOp]
  · exact sCmpB_den o a b

theorem sameInt_den {x y : SE} {b : Bool} (h : sameInt x y = some b) : (x.den ρ == y.den ρ) = b := by
  unfold sameInt at h
  split at h
  · cases h; rw [eqI_eq]; rfl
  · split at h
    · rename_i hb
      cases h
      rw [SE.beq_eq hb]; simp
    · split at h
      case h_2 => cases h
      rename_i p q r s hx hy
      obtain ⟨u, eu, h1, h2⟩ := bnd_den (ρ := ρ) hx
      obtain ⟨v, ev, h3, h4⟩ := bnd_den (ρ := ρ) hy
      split at h
      · cases h
      · rename_i hne
        cases h
        rw [eu, ev]
        have : u ≠ v := fun e => by
          subst e
          refine hne ?_ ?_
          · cases e : Nat.blt q r with
            | false => rfl
            | true => rw [Nat.blt_eq] at e; omega
          · cases e : Nat.blt s p with
            | false => rfl
            | true => rw [Nat.blt_eq] at e; omega
        simp; omega

end
end
end Go.Dw
