/-
  DwEnd: a run that ends well is a proof: the call returns true.
-/
import Derived.Test.YtnecfibpkplgoaaGreatDwPlan3
import Derived.RowKit3
namespace Go.Dw
set_option linter.unusedSimpArgs false
set_option linter.unusedVariables false

mutual
theorem Ob.den_of_good {ρ : Val} : ∀ {o : Ob}, o.good = true → o.den ρ
  | .ok, _ => trivial
  | .bad _ _, h => by cases h
  | .all l, h => Ob.denL_of_good (l := l) h
  | .ite c t e, h => by
    unfold Ob.good at h
    split at h
    · rename_i ht
      exact ⟨fun _ => Ob.den_of_good ht, fun _ => Ob.den_of_good h⟩
    · cases h
theorem Ob.denL_of_good {ρ : Val} : ∀ {l : List Ob}, Ob.goodL l = true → Ob.denL ρ l
  | [], _ => trivial
  | o :: l, h => by
    unfold Ob.goodL at h
    split at h
    · rename_i ho
      exact ⟨Ob.den_of_good ho, Ob.denL_of_good h⟩
    · cases h
end

theorem inv0 {ρ : Val} (w : World) : Inv ρ w (fun _ => none) heap0 w :=
  ⟨Fr.refl w, (fun _ _ h => by cases h), (fun _ _ h => by cases h), (fun n o h => by rw [show heap0.m.get n = none from rfl] at h; cases h), (fun _ _ h => by cases h), (fun _ _ _ _ _ h => by cases h),
    (fun n v e g t sh ow h => by rw [show heap0.m.get n = none from rfl] at h; cases h), (fun g x h => by rw [show heap0.gw.get g = none from rfl] at h; cases h), (fun _ _ _ _ _ _ _ h => by cases h)⟩

theorem noOrc_ok {P : Program} {ρ : Val} {w0 : World} : OrcOk P ρ w0 noOrc := fun f args H l h => by cases h

theorem isTrue_sound {ρ : Val} {j : J} {v : AV} {u : Value} {H : Heap} (hR : R ρ j v u) (h : Ob.den ρ (isTrue v H)) : u = .bool true := by
  unfold isTrue at h
  split at h
  · exact hR
  · exact h.elim
  · rename_i b _ _
    have hR : u = .bool (b.den ρ) := hR
    cases hb : b.den ρ with
    | true => rw [hR, hb]
    | false => exact (h.2 hb).elim
  · exact h.elim

/-- The machine's word for a call that returns true. -/
theorem calls_true {P : Program} (hmo : P.follows .mixedOrders = true) {orc : FuncId → List AV → Heap → Option (List (AV × Heap))} {ρ : Val} {w : World} (hor : OrcOk P ρ w orc) {n : Nat} {f : FuncId} {args : List AV} {vals : List Value} {H : Heap} {j : J}
    (hi : Inv ρ w j H w) (ha : RL ρ j args vals) (h : Ob.den ρ (ev P orc n (.call f args H isTrue))) : Calls P f vals.toArray w fun e w' => e = .returned (.bool true) ∧ RowKit.Grown w w' := by
  have hg := ev_good (w0 := w) hor (fun n rec hg => planOk hmo hg) n
  refine Calls.mono ((hg.call f args H isTrue h).2 j w vals hi ha) fun e w' he => ?_
  obtain ⟨u, rfl, v, H', j', h1, h2, h3, h4⟩ := he
  rw [isTrue_sound h1 h4]
  exact ⟨rfl, h2.fr.grown⟩

theorem run_true {P : Program} (hmo : P.follows .mixedOrders = true) {n : Nat} {f : FuncId} (h : (ev P noOrc n (.call f [] heap0 isTrue)).good = true) (w : World) : Calls P f #[] w fun e w' => e = .returned (.bool true) ∧ RowKit.Grown w w' :=
  calls_true (ρ := ⟨fun _ => 0, fun _ => false⟩) hmo noOrc_ok (inv0 w) RL.nil (Ob.den_of_good h)

end Go.Dw
