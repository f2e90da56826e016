/-
  DwPick: a number modulo another (the kit's Pick), met by its value; a statement's cases by that value.
-/
import Derived.Test.YtfpklobgecgnpaaGreatDwFacts
namespace Go.Dw
set_option linter.unusedSimpArgs false
set_option linter.unusedVariables false
noncomputable section

def pickI (x : Int) (n : Nat) : Int := if x.tmod n < 0 then IntKind.i64.wrap (x.tmod n + n) else x.tmod n
def pickK : K := fun v _ => match v with
  | .int k e => (match Nat.beq (kn k) 3 with | true => .ite (.cmp .eql e (.var 1)) .ok (.bad 0 "") | false => .bad 1 "")
  | _ => .bad 1 ""
def pickTree (n : Nat) : Ob :=
  .ite (.cmp .lss (.bin .rem .i64 (.var 0) (.lit (.ofNat n))) (.lit 0))
    (.ite (.cmp .eql (.bin .add .i64 (.bin .rem .i64 (.var 0) (.lit (.ofNat n))) (.lit (.ofNat n))) (.var 1)) .ok (.bad 0 ""))
    (.ite (.cmp .eql (.bin .rem .i64 (.var 0) (.lit (.ofNat n))) (.var 1)) .ok (.bad 0 ""))
def pickOrc (f i n r : Nat) (g : FuncId) (args : List AV) (H : Heap) : Option (List (AV × Heap)) :=
  match Nat.beq g f, args with
  | true, [.int k (.var i'), .int k' (.lit (.ofNat n'))] => (match Nat.beq (kn k) 3, Nat.beq (kn k') 3, Nat.beq i' i, Nat.beq n' n with
    | true, true, true, true => some [(.int .i64 (.lit (.ofNat r)), H)]
    | _, _, _, _ => none)
  | _, _ => none

structure PickOk (P : Program) (f n : Nat) : Prop where
  enters : Enters P f
  runs : ∀ (x : Int) (w : World), Calls P f #[.int .i64 x, .int .i64 (Int.ofNat n)] w fun e w' => e = .returned (.int .i64 (pickI x n)) ∧ RowKit.Below w.heap.size w w'

theorem kn3 {k : IntKind} (h : Nat.beq (kn k) 3 = true) : k = .i64 := by cases k <;> first | rfl | cases h

theorem pick_ok {P : Program} (hmo : P.follows .mixedOrders = true) {N : Nat} {f n : Nat} (h : ev P noOrc N (.call f [.int .i64 (.var 0), .int .i64 (.lit (.ofNat n))] heap0 pickK) = pickTree n) : PickOk P f n := by
  have den : ∀ x : Int, Ob.den (valOf [x, pickI x n] []) (pickTree n) := fun x => by
    have e0 : (valOf [x, pickI x n] []).i 0 = x := rfl
    have e1 : (valOf [x, pickI x n] []).i 1 = pickI x n := rfl
    refine ⟨fun hc => ⟨fun _ => trivial, fun hb => ?_⟩, fun hc => ⟨fun _ => trivial, fun hb => ?_⟩⟩
    · simp only [SB.den, SE.den, cmpOp, intOp, e0, e1, decide_eq_true_eq, Int.ofNat_eq_natCast] at hc hb
      unfold pickI at hb
      rw [if_pos hc] at hb
      simp at hb
    · simp only [SB.den, SE.den, cmpOp, intOp, e0, e1, decide_eq_false_iff_not, Int.ofNat_eq_natCast] at hc hb
      unfold pickI at hb
      rw [if_neg hc] at hb
      simp at hb
  have good : ∀ (x : Int) (w : World), Enters P f ∧ CallOk P (valOf [x, pickI x n] []) w f [.int .i64 (.var 0), .int .i64 (.lit (.ofNat n))] heap0 pickK := fun x w =>
    (ev_good (w0 := w) noOrc_ok (fun n rec hg => planOk hmo hg) N).call f _ heap0 pickK (by rw [h]; exact den x)
  refine ⟨(good 0 someWorld).1, fun x w => ?_⟩
  refine Calls.mono ((good x w).2 (fun _ => none) w [.int .i64 x, .int .i64 (Int.ofNat n)] (inv0 w) (.cons rfl (.cons rfl .nil))) fun e w' he => ?_
  obtain ⟨u, rfl, v, H', j', h1, h2, h3, h4⟩ := he
  refine ⟨?_, h2.fr.below⟩
  unfold pickK at h4
  split at h4
  · rename_i k e
    split at h4
    · rename_i hk
      have hk := kn3 hk
      subst hk
      have h1 : u = .int .i64 (e.den (valOf [x, pickI x n] [])) := h1
      have hd : SB.den (valOf [x, pickI x n] []) (.cmp .eql e (.var 1)) = true := by
        cases hb : SB.den (valOf [x, pickI x n] []) (.cmp .eql e (.var 1)) with
        | true => rfl
        | false => exact (h4.2 hb).elim
      have hd : (e.den (valOf [x, pickI x n] []) == pickI x n) = true := hd
      rw [h1, eq_of_beq hd]
    · exact h4.elim
  · exact h4.elim

theorem pickOrc_ok {P : Program} {ρ : Val} {w0 : World} {f i n r : Nat} (h : PickOk P f n) (hr : pickI (ρ.i i) n = Int.ofNat r) : OrcOk P ρ w0 (pickOrc f i n r) := by
  intro g args H l hl
  unfold pickOrc at hl
  split at hl
  case h_2 => cases hl
  rename_i k i' k' n' hg
  split at hl
  case h_2 => cases hl
  rename_i h1 h2 h3 h4
  cases hl
  have hg := natBeq hg
  have h1 := kn3 h1
  have h2 := kn3 h2
  have h3 := natBeq h3
  have h4 := natBeq h4
  subst hg h1 h2 h3 h4
  refine ⟨h.enters, fun kk hk j w vals hi hv => ?_⟩
  obtain ⟨u, m, rfl, hu, v, m', rfl, hv, hm⟩ := hv
  have e : m' = [] := hm
  subst e
  have hu : u = .int .i64 (ρ.i i') := hu
  have hv : v = .int .i64 (Int.ofNat n') := hv
  subst hu hv
  refine Calls.mono (h.runs (ρ.i i') w) fun e w' ⟨he, hb⟩ => ⟨_, he, .int .i64 (.lit (.ofNat r)), H, j, ?_, hi.behind hb, St.refl j H, hk⟩
  show Value.int .i64 (pickI (ρ.i i') n') = .int .i64 (Int.ofNat r)
  rw [hr]

/-- The value lies below. -/
theorem pick_lt (x : Int) {n : Nat} (hn : 0 < n) (hb : n < 1000000) : ∃ r : Nat, r < n ∧ pickI x n = Int.ofNat r := by
  have h1 : x.tmod n < n := Int.tmod_lt_of_pos x (by omega)
  have h2 : -(n : Int) < x.tmod n := by
    have := Int.tmod_lt_of_pos (-x) (show (0 : Int) < n by omega)
    rw [Int.neg_tmod] at this
    omega
  unfold pickI
  split
  · rename_i hlt
    obtain ⟨m, hm⟩ : ∃ m : Nat, x.tmod n + n = Int.ofNat m := ⟨(x.tmod n + n).toNat, by simp; omega⟩
    refine ⟨m, by simp at hm; omega, ?_⟩
    rw [hm]
    exact wrap_small (by show m < 2 ^ 63; simp at hm; omega)
  · exact ⟨(x.tmod n).toNat, by omega, by simp; omega⟩

/-- A natural number that lies within bounds. -/
theorem R_whole {ρ : Val} {j : J} {k : IntKind} {i lo hi n : Nat} {x : Int} (hx : ρ.i i = x) (h1 : (lo : Int) ≤ x) (h2 : x ≤ hi) (h3 : hi < 2 ^ n) : R ρ j (.int k (.flds [⟨i, lo, hi, 0, n, 0⟩] 0)) (.int k x) := by
  show Value.int k x = Value.int k (Int.ofNat (fldsDen ρ [⟨i, lo, hi, 0, n, 0⟩] 0))
  have e : fldsDen ρ [⟨i, lo, hi, 0, n, 0⟩] 0 = x.toNat := by
    show Fld.den ρ ⟨i, lo, hi, 0, n, 0⟩ ||| 0 = _
    rw [Nat.or_zero]
    unfold Fld.den
    simp only [Nat.shiftRight_zero, Nat.shiftLeft_zero, hx]
    have : max lo (min x.toNat hi) = x.toNat := by omega
    rw [this]
    exact Nat.mod_eq_of_lt (by omega)
  rw [e]
  congr 1
  simp
  omega

/-- A number that lies within bounds behind a constant whose low bits are nought. -/
theorem R_plus {ρ : Val} {j : J} {k : IntKind} {i lo hi n c q : Nat} {x : Int} (hx : ρ.i i = x - c) (h1 : (lo : Int) ≤ x - c) (h2 : x - c ≤ hi) (h3 : hi < 2 ^ n) (h4 : c = 2 ^ n * q) : R ρ j (.int k (.flds [⟨i, lo, hi, 0, n, 0⟩] c)) (.int k x) := by
  show Value.int k x = Value.int k (Int.ofNat (fldsDen ρ [⟨i, lo, hi, 0, n, 0⟩] c))
  have e : fldsDen ρ [⟨i, lo, hi, 0, n, 0⟩] c = (x - c).toNat + c := by
    show Fld.den ρ ⟨i, lo, hi, 0, n, 0⟩ ||| c = _
    unfold Fld.den
    simp only [Nat.shiftRight_zero, Nat.shiftLeft_zero, hx]
    have : max lo (min (x - c).toNat hi) = (x - c).toNat := by omega
    rw [this, Nat.mod_eq_of_lt (by omega), Nat.or_comm, h4, ← Nat.two_pow_add_eq_or_of_lt (show (x - ((2 ^ n * q : Nat) : Int)).toNat < 2 ^ n by rw [← h4]; omega)]
    omega
  rw [e]
  congr 1
  simp
  omega

theorem okWide_intR {P : Program} {w : World} {r : Reach} {base : Nat} {t : TypeId} {k : IntKind} {v : Value} (ht : P.underlying t = some (.int k)) (h : Value.okWide P w r base t v) : ∃ n, v = .int k n ∧ k.min ≤ n ∧ n ≤ k.max := by
  simp only [Value.okWide, ht, Cell.okWide] at h
  cases v <;> simp_all [Cell.ok, IntKind.has]

end
end Go.Dw
