/-
  DwFacts: a run's tests, told by those that were met before: ways that no valuation goes are left out.
-/
import Derived.Test.YtfpklobgecgnpaaGreatDwArgs
import Derived.Test.YtfpklobgecgnpaaGreatDwSym
namespace Go.Dw
set_option linter.unusedSimpArgs false
set_option linter.unusedVariables false
noncomputable section

/-- Bounds, narrowed by a comparison with a literal. -/
def narrow (o : BinOp) (m : Nat) (v : Bool) (lo hi : Nat) : Nat × Nat :=
  match o, v with
  | .eql, true => (m, m)
  | .neq, false => (m, m)
  | .eql, false => (match Nat.beq m lo with | true => (Nat.succ lo, hi) | false => (lo, hi))
  | .neq, true => (match Nat.beq m lo with | true => (Nat.succ lo, hi) | false => (lo, hi))
  | .lss, true => (match m with | 0 => (lo, hi) | k + 1 => (lo, Nat.min hi k))
  | .lss, false => (Nat.max lo m, hi)
  | .geq, true => (Nat.max lo m, hi)
  | .geq, false => (match m with | 0 => (lo, hi) | k + 1 => (lo, Nat.min hi k))
  | .leq, true => (lo, Nat.min hi m)
  | .leq, false => (Nat.max lo (Nat.succ m), hi)
  | .gtr, true => (Nat.max lo (Nat.succ m), hi)
  | .gtr, false => (lo, Nat.min hi m)
  | _, _ => (lo, hi)
def litN : SE → Option Nat
  | .lit (.ofNat n) => some n
  | _ => none
def narrowAll (e : SE) : List (SB × Bool) → Nat → Nat → Nat × Nat
  | [], lo, hi => (lo, hi)
  | f :: l, lo, hi => match f.1 with
    | .cmp o a b => (match litN b with
      | some m => (match SE.beq a e with
        | true => (match narrow o m f.2 lo hi with | (lo', hi') => narrowAll e l lo' hi')
        | false => narrowAll e l lo hi)
      | none => narrowAll e l lo hi)
    | _ => narrowAll e l lo hi
def told (o : BinOp) (p q n : Nat) : Option Bool :=
  match o with
  | .eql => (match Nat.blt q n, Nat.blt n p with | false, false => (match Nat.beq p q with | true => some true | false => none) | _, _ => some false)
  | .neq => (match Nat.blt q n, Nat.blt n p with | false, false => (match Nat.beq p q with | true => some false | false => none) | _, _ => some true)
  | .lss => (match Nat.blt q n, Nat.ble n p with | true, _ => some true | _, true => some false | _, _ => none)
  | .gtr => (match Nat.blt n p, Nat.ble q n with | true, _ => some true | _, true => some false | _, _ => none)
  | .leq => (match Nat.ble q n, Nat.blt n p with | true, _ => some true | _, true => some false | _, _ => none)
  | .geq => (match Nat.ble n p, Nat.blt q n with | true, _ => some true | _, true => some false | _, _ => none)
  | _ => none
def known (c : SB) : List (SB × Bool) → Option Bool
  | [] => none
  | f :: l => match SB.eqv f.1 c with | true => some f.2 | false => known c l
def notO : Option Bool → Option Bool
  | some true => some false
  | some false => some true
  | none => none
def ask (fs : List (SB × Bool)) : SB → Option Bool
  | .lit b => some b
  | .not a => notO (ask fs a)
  | .cmp o a b => (match litN b, bnd a with
    | some n, some (p, q) => (match narrowAll a fs p q with
      | (p', q') => (match told o p' q' n with
        | some v => some v
        | none => known (.cmp o a b) fs))
    | _, _ => known (.cmp o a b) fs)
  | .beq a b => (match SB.eqv a b with
    | true => some true
    | false => (match ask fs a, ask fs b with
      | some true, some true => some true
      | some false, some false => some true
      | some true, some false => some false
      | some false, some true => some false
      | _, _ => known (.beq a b) fs))
  | c => known c fs

section
variable {ρ : Val}
def Facts (ρ : Val) (fs : List (SB × Bool)) : Prop := ∀ f ∈ fs, f.1.den ρ = f.2

theorem litN_eq {a : SE} {n : Nat} (h : litN a = some n) : a = .lit (.ofNat n) := by
  unfold litN at h
  split at h
  · cases h; rfl
  · cases h

theorem narrow_ok {o : BinOp} {m : Nat} {v : Bool} {lo hi x : Nat} (h : cmpOp o (Int.ofNat x) (Int.ofNat m) = v) (h1 : lo ≤ x) (h2 : x ≤ hi) (hc : isCmp o = true) : (narrow o m v lo hi).1 ≤ x ∧ x ≤ (narrow o m v lo hi).2 := by
  have e1 : ∀ a b : Nat, Nat.max a b = max a b := fun _ _ => rfl
  have e2 : ∀ a b : Nat, Nat.min a b = min a b := fun _ _ => rfl
  have beq : ∀ (hne : x ≠ m), (match Nat.beq m lo with | true => (Nat.succ lo, hi) | false => (lo, hi)).1 ≤ x ∧ x ≤ (match Nat.beq m lo with | true => (Nat.succ lo, hi) | false => (lo, hi)).2 := fun hne => by
    cases hb : Nat.beq m lo with
    | true =>
      have := Nat.eq_of_beq_eq_true hb
      refine ⟨?_, h2⟩
      show lo + 1 ≤ x
      omega
    | false => exact ⟨h1, h2⟩
  have lt : ∀ (hlt : x < m), (match m with | 0 => (lo, hi) | k + 1 => (lo, Nat.min hi k)).1 ≤ x ∧ x ≤ (match m with | 0 => (lo, hi) | k + 1 => (lo, Nat.min hi k)).2 := fun hlt => by
    cases m with
    | zero => exact ⟨h1, h2⟩
    | succ k =>
      refine ⟨h1, ?_⟩
      show x ≤ min hi k
      omega
  cases o
  case eql =>
    cases v
    · exact beq (by simp [cmpOp] at h; omega)
    · have h : x = m := by simp [cmpOp] at h; omega
      exact ⟨by show m ≤ x; omega, by show x ≤ m; omega⟩
  case neq =>
    cases v
    · have h : x = m := by simp [cmpOp] at h; omega
      exact ⟨by show m ≤ x; omega, by show x ≤ m; omega⟩
    · exact beq (by simp [cmpOp] at h; omega)
  case lss =>
    cases v
    · have h : m ≤ x := by simpa [cmpOp] using h
      exact ⟨by show max lo m ≤ x; omega, h2⟩
    · exact lt (by simpa [cmpOp] using h)
  case leq =>
    cases v
    · have h : m < x := by simpa [cmpOp] using h
      exact ⟨by show max lo (m + 1) ≤ x; omega, h2⟩
    · have h : x ≤ m := by simpa [cmpOp] using h
      exact ⟨h1, by show x ≤ min hi m; omega⟩
  case gtr =>
    cases v
    · have h : x ≤ m := by simpa [cmpOp] using h
      exact ⟨h1, by show x ≤ min hi m; omega⟩
    · have h : m < x := by simpa [cmpOp] using h
      exact ⟨by show max lo (m + 1) ≤ x; omega, h2⟩
  case geq =>
    cases v
    · have h : x < m := by simpa [cmpOp] using h
      exact lt h
    · have h : m ≤ x := by simpa [cmpOp] using h
      exact ⟨by show max lo m ≤ x; omega, h2⟩
  all_goals cases hc

/-- Comparisons alone are facts of this kind. -/
def factOk : SB × Bool → Prop
  | (.cmp o _ _, _) => isCmp o = true
  | _ => True

theorem narrowAll_ok {e : SE} {x : Nat} (hx : e.den ρ = Int.ofNat x) : ∀ {fs : List (SB × Bool)} {lo hi : Nat}, Facts ρ fs → (∀ f ∈ fs, factOk f) → lo ≤ x → x ≤ hi → (narrowAll e fs lo hi).1 ≤ x ∧ x ≤ (narrowAll e fs lo hi).2
  | [], lo, hi, _, _, h1, h2 => ⟨h1, h2⟩
  | (c, v) :: fs, lo, hi, hf, hok, h1, h2 => by
    have hf' : Facts ρ fs := fun f h => hf f (List.mem_cons_of_mem _ h)
    have hok' : ∀ f ∈ fs, factOk f := fun f h => hok f (List.mem_cons_of_mem _ h)
    unfold narrowAll
    split
    · rename_i o a b heq
      simp only at heq
      subst heq
      split
      · rename_i m hm
        split
        · rename_i hb
          have := SE.beq_eq hb
          subst this
          have hc : cmpOp o (a.den ρ) (b.den ρ) = v := hf _ (List.mem_cons_self ..)
          have ho : isCmp o = true := hok _ (List.mem_cons_self ..)
          rw [litN_eq hm, hx] at hc
          have := narrow_ok hc h1 h2 ho
          exact narrowAll_ok hx hf' hok' this.1 this.2
        · exact narrowAll_ok hx hf' hok' h1 h2
      · exact narrowAll_ok hx hf' hok' h1 h2
    · exact narrowAll_ok hx hf' hok' h1 h2

theorem told_ok {o : BinOp} {p q n x : Nat} {v : Bool} (h : told o p q n = some v) (h1 : p ≤ x) (h2 : x ≤ q) : cmpOp o (Int.ofNat x) (Int.ofNat n) = v := by
  have blt : ∀ {u v : Nat}, Nat.blt u v = true → u < v := fun h => by rw [Nat.blt_eq] at h; exact h
  have bltf : ∀ {u v : Nat}, Nat.blt u v = false → ¬ u < v := fun h hh => by rw [← Nat.blt_eq] at hh; rw [hh] at h; cases h
  unfold told at h
  split at h
  · split at h
    · split at h
      · rename_i hb
        cases h
        have := Nat.eq_of_beq_eq_true hb
        rename_i g1 g2 _
        have g1 := bltf g1
        have g2 := bltf g2
        simp [cmpOp]; omega
      · cases h
    · rename_i hne
      cases h
      have : ¬ (¬ q < n ∧ ¬ n < p) := fun ⟨g1, g2⟩ => by
        refine hne ?_ ?_
        · cases e : Nat.blt q n with
          | false => rfl
          | true => exact absurd (blt e) g1
        · cases e : Nat.blt n p with
          | false => rfl
          | true => exact absurd (blt e) g2
      simp [cmpOp]; omega
  · split at h
    · split at h
      · rename_i hb
        cases h
        have := Nat.eq_of_beq_eq_true hb
        rename_i g1 g2 _
        have g1 := bltf g1
        have g2 := bltf g2
        simp [cmpOp]; omega
      · cases h
    · rename_i hne
      cases h
      have : ¬ (¬ q < n ∧ ¬ n < p) := fun ⟨g1, g2⟩ => by
        refine hne ?_ ?_
        · cases e : Nat.blt q n with
          | false => rfl
          | true => exact absurd (blt e) g1
        · cases e : Nat.blt n p with
          | false => rfl
          | true => exact absurd (blt e) g2
      simp [cmpOp]; omega
  all_goals
    first
      | (cases h; done)
      | (split at h
         · rename_i hb
           first | have := blt hb | have := Nat.le_of_ble_eq_true hb
           cases h
           simp [cmpOp]; omega
         · rename_i hb _
           first | have := blt hb | have := Nat.le_of_ble_eq_true hb
           cases h
           simp [cmpOp]; omega
         · cases h)

theorem known_ok {c : SB} {v : Bool} : ∀ {fs : List (SB × Bool)}, Facts ρ fs → known c fs = some v → c.den ρ = v
  | [], _, h => by cases h
  | f :: fs, hf, h => by
    unfold known at h
    split at h
    · rename_i hb
      cases h
      rw [← SB.eqv_eq hb]
      exact hf f (List.mem_cons_self ..)
    · exact known_ok (fun g hg => hf g (List.mem_cons_of_mem _ hg)) h

theorem ask_ok {fs : List (SB × Bool)} (hf : Facts ρ fs) (hok : ∀ f ∈ fs, factOk f) : ∀ {c : SB} {v : Bool}, ask fs c = some v → c.den ρ = v
  | .lit b, v, h => by unfold ask at h; cases h; rfl
  | .not a, v, h => by
    unfold ask at h
    cases ha : ask fs a with
    | none => rw [ha] at h; cases h
    | some w =>
      rw [ha] at h
      have := ask_ok hf hok ha
      show (!(a.den ρ)) = v
      rw [this]
      cases w <;> (cases h; rfl)
  | .cmp o a b, v, h => by
    unfold ask at h
    split at h
    · rename_i n p q hn hb
      split at h
      rename_i p' q' hna
      split at h
      · rename_i u hu
        cases h
        obtain ⟨x, ex, h1, h2⟩ := bnd_den (ρ := ρ) hb
        have := narrowAll_ok ex hf hok h1 h2
        rw [hna] at this
        show cmpOp o (a.den ρ) (b.den ρ) = _
        rw [ex, litN_eq hn]
        exact told_ok hu this.1 this.2
      · exact known_ok hf h
    · exact known_ok hf h
  | .var i, v, h => known_ok hf h
  | .beq a b, v, h => by
    unfold ask at h
    split at h
    · rename_i he
      cases h
      rw [SB.eqv_eq he]
      show (b.den ρ == b.den ρ) = true
      exact beq_self_eq_true _
    · have one : ∀ {x y : Bool}, ask fs a = some x → ask fs b = some y → (SB.beq a b).den ρ = (x == y) := fun ha hb => by
        show (a.den ρ == b.den ρ) = _
        rw [ask_ok hf hok ha, ask_ok hf hok hb]
      split at h
      · rename_i ha hb
        cases h
        exact one ha hb
      · rename_i ha hb
        cases h
        exact one ha hb
      · rename_i ha hb
        cases h
        exact one ha hb
      · rename_i ha hb
        cases h
        exact one ha hb
      · exact known_ok hf h
  | .and a b, v, h => known_ok hf h

/-- A fact, its negations taken off. -/
def fact : SB → Bool → SB × Bool
  | .not a, v => fact a (match v with | true => false | false => true)
  | c, v => (c, v)
theorem fact_den : ∀ {c : SB} {v : Bool}, c.den ρ = v → (fact c v).1.den ρ = (fact c v).2
  | .not a, v, h => by
    have h : (!(a.den ρ)) = v := h
    unfold fact
    refine fact_den ?_
    cases v <;> simpa using h
  | .lit _, _, h => h
  | .var _, _, h => h
  | .cmp _ _ _, _, h => h
  | .beq _ _, _, h => h
  | .and _ _, _, h => h
/-- Only comparisons are comparisons. -/
def cmpsOk : SB → Bool
  | .cmp o _ _ => isCmp o
  | .not a => cmpsOk a
  | _ => true
theorem fact_ok : ∀ {c : SB} {v : Bool}, cmpsOk c = true → factOk (fact c v)
  | .not a, v, h => by unfold fact; exact fact_ok (c := a) h
  | .lit _, _, _ => trivial
  | .var _, _, _ => trivial
  | .cmp _ _ _, _, h => h
  | .beq _ _, _, _ => trivial
  | .and _ _, _, _ => trivial
mutual
/-- Every way ends well that a valuation may go. -/
def goodG (fs : List (SB × Bool)) : Ob → Bool
  | .ok => true
  | .bad _ _ => false
  | .all l => goodGL fs l
  | .ite c t e => match ask fs c with
    | some true => goodG fs t
    | some false => goodG fs e
    | none => match cmpsOk c with
      | true => (match goodG (fact c true :: fs) t with
        | true => goodG (fact c false :: fs) e
        | false => false)
      | false => false
def goodGL (fs : List (SB × Bool)) : List Ob → Bool
  | [] => true
  | o :: l => match goodG fs o with | true => goodGL fs l | false => false
end

mutual
theorem goodG_den : ∀ {o : Ob} {fs : List (SB × Bool)}, Facts ρ fs → (∀ f ∈ fs, factOk f) → goodG fs o = true → o.den ρ
  | .ok, _, _, _, _ => trivial
  | .bad _ _, _, _, _, h => by unfold goodG at h; cases h
  | .all l, fs, hf, hok, h => by unfold goodG at h; exact goodGL_den (l := l) hf hok h
  | .ite c t e, fs, hf, hok, h => by
    unfold goodG at h
    split at h
    · rename_i hc
      have := ask_ok hf hok hc
      exact ⟨fun _ => goodG_den hf hok h, fun hh => by rw [this] at hh; cases hh⟩
    · rename_i hc
      have := ask_ok hf hok hc
      exact ⟨fun hh => (by rw [this] at hh; cases hh), fun _ => goodG_den hf hok h⟩
    · split at h
      case h_2 => cases h
      rename_i hcm
      split at h
      case h_2 => cases h
      rename_i ht
      refine ⟨fun hc => goodG_den (fun f hm => ?_) (fun f hm => ?_) ht, fun hc => goodG_den (fun f hm => ?_) (fun f hm => ?_) h⟩
      · rcases List.mem_cons.1 hm with rfl | hm
        · exact fact_den hc
        · exact hf f hm
      · rcases List.mem_cons.1 hm with rfl | hm
        · exact fact_ok hcm
        · exact hok f hm
      · rcases List.mem_cons.1 hm with rfl | hm
        · exact fact_den hc
        · exact hf f hm
      · rcases List.mem_cons.1 hm with rfl | hm
        · exact fact_ok hcm
        · exact hok f hm
theorem goodGL_den : ∀ {l : List Ob} {fs : List (SB × Bool)}, Facts ρ fs → (∀ f ∈ fs, factOk f) → goodGL fs l = true → Ob.denL ρ l
  | [], _, _, _, _ => trivial
  | o :: l, fs, hf, hok, h => by
    unfold goodGL at h
    split at h
    · rename_i ho
      exact ⟨goodG_den hf hok ho, goodGL_den hf hok h⟩
    · cases h
end
theorem good_den {o : Ob} (h : goodG [] o = true) : o.den ρ := goodG_den (fun f hf => by cases hf) (fun f hf => by cases hf) h

theorem run_args_goodG {P : Program} (hmo : P.follows .mixedOrders = true) {orc : FuncId → List AV → Heap → Option (List (AV × Heap))} {ρ : Val} (hor : ∀ w, OrcOk P ρ w orc) {n : Nat} {f : FuncId} {args : List AV} {vals : List Value}
    (ha : RL ρ (fun _ => none) args vals) (h : goodG [] (ev P orc n (.call f args heap0 isTrue)) = true) (w : World) :
    Calls P f vals.toArray w fun e w' => e = .returned (.bool true) ∧ RowKit.Below w.heap.size w w' :=
  run_args hmo hor ha (good_den h) w

end
end
end Go.Dw
