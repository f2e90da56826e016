import Derived.Test.YtfpklobgecgnpaaGreatDwArgs
/-
  The abstract machine's word for a call that returns a value without places: closed calls of pure functions by the kernel. No condition.
-/
namespace Go.Dw
set_option linter.unusedSimpArgs false
set_option linter.unusedVariables false
noncomputable section
open Go.RowKit

mutual
/-- The value that a closed abstract one stands for. -/
def clo : AV → Option Value
  | .bool (.lit b) => some (.bool b)
  | .int k (.lit n) => some (.int k n)
  | .nilp => some (.pointer none)
  | .nils => some (.slice none 0 0)
  | .agg l => match cloL l with | some m => some (.agg m.toArray) | none => none
  | .tup l => match cloL l with | some m => some (.tuple m.toArray) | none => none
  | _ => none
def cloL : List AV → Option (List Value)
  | [] => some []
  | a :: l => match clo a, cloL l with | some v, some m => some (v :: m) | _, _ => none
end

mutual
theorem clo_sound {ρ : Val} {j : J} : ∀ {a : AV} {x u : Value}, clo a = some x → R ρ j a u → u = x
  | .bool (.lit b), x, u, h, r => by cases h; exact r
  | .int k (.lit n), x, u, h, r => by cases h; exact r
  | .nilp, x, u, h, r => by cases h; exact r
  | .nils, x, u, h, r => by cases h; exact r
  | .agg l, x, u, h, r => by
    obtain ⟨m, rfl, hm⟩ := r
    rw [clo] at h
    cases hl : cloL l with
    | none => rw [hl] at h; cases h
    | some m' => rw [hl] at h; cases h; rw [cloL_sound hl hm]
  | .tup l, x, u, h, r => by
    obtain ⟨m, rfl, hm⟩ := r
    rw [clo] at h
    cases hl : cloL l with
    | none => rw [hl] at h; cases h
    | some m' => rw [hl] at h; cases h; rw [cloL_sound hl hm]
theorem cloL_sound {ρ : Val} {j : J} : ∀ {l : List AV} {m us : List Value}, cloL l = some m → RL ρ j l us → us = m
  | [], m, us, h, r => by cases h; exact r
  | a :: l, m, us, h, r => by
    obtain ⟨v, m', rfl, hv, hm⟩ := r
    rw [cloL] at h
    cases ha : clo a with
    | none => rw [ha] at h; cases h
    | some x =>
      cases hl : cloL l with
      | none => rw [ha, hl] at h; cases h
      | some y => rw [ha, hl] at h; cases h; rw [clo_sound ha hv, cloL_sound hl hm]
end

def eqB (a b : Bool) : Bool := match a with | true => b | false => match b with | true => false | false => true
mutual
/-- Are two closed abstract values the same? -/
def eqAV : AV → AV → Bool
  | .bool (.lit a), .bool (.lit b) => eqB a b
  | .int k (.lit a), .int k' (.lit b) => match decide (k = k') with | true => decide (a = b) | false => false
  | .nilp, .nilp => true
  | .nils, .nils => true
  | .agg l, .agg m => eqAVL l m
  | .tup l, .tup m => eqAVL l m
  | _, _ => false
def eqAVL : List AV → List AV → Bool
  | [], [] => true
  | a :: l, b :: m => match eqAV a b with | true => eqAVL l m | false => false
  | _, _ => false
end
theorem eqB_eq {a b : Bool} (h : eqB a b = true) : a = b := by cases a <;> cases b <;> first | rfl | cases h
mutual
theorem eqAV_eq : ∀ {a b : AV}, eqAV a b = true → a = b
  | .bool (.lit a), .bool (.lit b), h => by rw [eqB_eq (a := a) (b := b) h]
  | .int k (.lit a), .int k' (.lit b), h => by
    rw [eqAV] at h
    split at h
    · rename_i hk
      rw [of_decide_eq_true hk, of_decide_eq_true h]
    · cases h
  | .nilp, .nilp, _ => rfl
  | .nils, .nils, _ => rfl
  | .agg l, .agg m, h => by rw [eqAVL_eq (l := l) (m := m) h]
  | .tup l, .tup m, h => by rw [eqAVL_eq (l := l) (m := m) h]
theorem eqAVL_eq : ∀ {l m : List AV}, eqAVL l m = true → l = m
  | [], [], _ => rfl
  | a :: l, b :: m, h => by
    rw [eqAVL] at h
    split at h
    · rename_i ha
      rw [eqAV_eq ha, eqAVL_eq h]
    · cases h
end

/-- The test: the answer is x. -/
def isAV (x : AV) (v : AV) (_ : Heap) : Ob := match eqAV v x with | true => .ok | false => .bad 96 "other"

/-- A closed call returns what the machine's run says. -/
theorem run_val {P : Program} (hmo : P.follows .mixedOrders = true) {n : Nat} {f : FuncId} {args : List AV} {vals : List Value} {x : AV} {u : Value} (hx : clo x = some u) (ha : RL ⟨fun _ => 0, fun _ => false⟩ (fun _ => none) args vals)
    (h : (ev P noOrc n (.call f args heap0 (isAV x))).good = true) (w : World) :
    Calls P f vals.toArray w fun e w' => e = .returned u ∧ Below w.heap.size w w' := by
  have hg := ev_good (P := P) (ρ := ⟨fun _ => 0, fun _ => false⟩) (w0 := w) (orc := noOrc) noOrc_ok (fun n rec hg => planOk hmo hg) n
  refine Calls.mono ((hg.call f args heap0 (isAV x) (Ob.den_of_good h)).2 (fun _ => none) w vals (inv0 w) ha) fun e w' he => ?_
  obtain ⟨u', rfl, v, H', j', h1, h2, h3, h4⟩ := he
  have hv : v = x := by
    unfold isAV at h4
    split at h4
    · rename_i e
      exact eqAV_eq e
    · exact h4.elim
  rw [hv] at h1
  rw [clo_sound hx h1]
  exact ⟨rfl, h2.fr.below⟩
theorem RL_int {ρ : Val} {j : J} {k : IntKind} {n : Int} {l : List AV} {m : List Value} (h : RL ρ j l m) : RL ρ j (.int k (.lit n) :: l) (.int k n :: m) := ⟨_, _, rfl, rfl, h⟩
theorem RL_bool {ρ : Val} {j : J} {b : Bool} {l : List AV} {m : List Value} (h : RL ρ j l m) : RL ρ j (.bool (.lit b) :: l) (.bool b :: m) := ⟨_, _, rfl, rfl, h⟩
theorem RL_agg {ρ : Val} {j : J} {a : List AV} {b : List Value} {l : List AV} {m : List Value} (h0 : RL ρ j a b) (h : RL ρ j l m) : RL ρ j (.agg a :: l) (.agg b.toArray :: m) := ⟨_, _, rfl, ⟨_, rfl, h0⟩, h⟩
end
end Go.Dw
