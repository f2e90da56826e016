/-
  DwEnd: a run that ends well is a proof: the call returns true.
-/
import Derived.Test.YtfpklobgecgnpaaGreatDwPlan3
import Derived.RowKit3
import Derived.ChangeSame
namespace Go.Dw
set_option linter.unusedSimpArgs false
set_option linter.unusedVariables false

mutual
theorem Ob.den_of_good {ρ : Val} : ∀ {o : Ob}, o.good = true → o.den ρ
  | .ok, _ => trivial
  | .bad _ _, h => by cases h
  | .all l, h => Ob.denL_of_good (l := l) h
  | .ite c t e, h => by
    unfold Ob.good at h
    split at h
    · rename_i ht
      exact ⟨fun _ => Ob.den_of_good ht, fun _ => Ob.den_of_good h⟩
    · cases h
theorem Ob.denL_of_good {ρ : Val} : ∀ {l : List Ob}, Ob.goodL l = true → Ob.denL ρ l
  | [], _ => trivial
  | o :: l, h => by
    unfold Ob.goodL at h
    split at h
    · rename_i ho
      exact ⟨Ob.den_of_good ho, Ob.denL_of_good h⟩
    · cases h
end

theorem inv0 {ρ : Val} (w : World) : Inv ρ w (fun _ => none) heap0 w :=
  ⟨Fr.refl w, (fun _ _ h => by cases h), (fun _ _ h => by cases h), (fun n o h => by rw [show heap0.m.get n = none from rfl] at h; cases h), (fun _ _ h => by cases h), (fun _ _ _ _ _ h => by cases h),
    (fun n v e g t sh ow h => by rw [show heap0.m.get n = none from rfl] at h; cases h), (fun g x h => by rw [show heap0.gw.get g = none from rfl] at h; cases h), (fun _ _ _ _ _ _ _ h => by cases h), (fun _ _ h => by cases h), (fun _ _ _ _ _ _ h => by cases h)⟩

theorem noOrc_ok {P : Program} {ρ : Val} {w0 : World} : OrcOk P ρ w0 noOrc := fun f args H l h => by cases h

theorem isTrue_sound {ρ : Val} {j : J} {v : AV} {u : Value} {H : Heap} (hR : R ρ j v u) (h : Ob.den ρ (isTrue v H)) : u = .bool true := by
  unfold isTrue at h
  split at h
  · exact hR
  · exact h.elim
  · rename_i b _ _
    have hR : u = .bool (b.den ρ) := hR
    cases hb : b.den ρ with
    | true => rw [hR, hb]
    | false => exact (h.2 hb).elim
  · exact h.elim

/-- The machine's word for a call that returns true. -/
theorem calls_true {P : Program} (hmo : P.follows .mixedOrders = true) {orc : FuncId → List AV → Heap → Option (List (AV × Heap))} {ρ : Val} {w : World} (hor : OrcOk P ρ w orc) {n : Nat} {f : FuncId} {args : List AV} {vals : List Value} {H : Heap} {j : J}
    (hi : Inv ρ w j H w) (ha : RL ρ j args vals) (h : Ob.den ρ (ev P orc n (.call f args H isTrue))) : Calls P f vals.toArray w fun e w' => e = .returned (.bool true) ∧ RowKit.Below w.heap.size w w' := by
  have hg := ev_good (w0 := w) hor (fun n rec hg => planOk hmo hg) n
  refine Calls.mono ((hg.call f args H isTrue h).2 j w vals hi ha) fun e w' he => ?_
  obtain ⟨u, rfl, v, H', j', h1, h2, h3, h4⟩ := he
  rw [isTrue_sound h1 h4]
  exact ⟨rfl, h2.fr.below⟩

theorem run_true {P : Program} (hmo : P.follows .mixedOrders = true) {n : Nat} {f : FuncId} (h : (ev P noOrc n (.call f [] heap0 isTrue)).good = true) (w : World) : Calls P f #[] w fun e w' => e = .returned (.bool true) ∧ RowKit.Below w.heap.size w w' :=
  calls_true (ρ := ⟨fun _ => 0, fun _ => false⟩) hmo noOrc_ok (inv0 w) RL.nil (Ob.den_of_good h)

open Go.RowKit Go.WideShapes Go.ChangeShapes in
/-- The row's last step where 'Below' alone is known (the how-to's lemma, to be copied: extra-small.md, 9). -/
theorem post_of_below {H : Type} {enc : TypeId × Value → H} {P : Program} {f : Func} {s : ChangeSpec} {apart fresh handsOn again : Bool} {W W' : World} {args : Array Value} {v : Value} {ds gs : List (DataW H)} {before pa pv : List MemPlace}
    (hW : DataW.Whole enc P f.params.toList s.vars apart W args.toList ds gs before)
    (hres : ∀ (b : Nat) (sp : Nat → Bool) (hd : Bool), DataW.TrodAll enc P W' b sp hd f.resultTypes.toList (v.resultList f.resultTypes.size) (s.fn H (ds ++ gs)).results [])
    (hargs : ∀ sp : Nat → Bool, (∀ p ∈ before, sp p.block = true) → DataW.TrodAll enc P W' 0 sp true f.params.toList args.toList (s.fn H (ds ++ gs)).args pa)
    (hvars : ∀ sp : Nat → Bool, (∀ p ∈ before, sp p.block = true) → DataW.TrodVars enc P W' sp s.vars (s.fn H (ds ++ gs)).vars pv)
    (hps : before = pa ++ pv) (hb : Below W.heap.size W W')
    (hok : ∀ (j : Nat) (t : TypeId) (r : Value), f.resultTypes[j]? = some t → (v.resultList f.resultTypes.size)[j]? = some r → Value.okWide P W' .any 0 t r) :
    s.post enc P f apart fresh handsOn again W args v W' := by
  have hlt : ∀ p ∈ before, p.block < W.heap.size := fun p hp => hW.lt p hp
  have hold : ∀ p ∈ before, (fun b => decide (b < W.heap.size)) p.block = true := fun p hp => by simpa using hlt p hp
  refine ⟨ds, gs, before, [], pa, pv, hW, hres _ _ _, hargs _ hold, hvars _ hold, World.keptBut_mono (fun p hp => ⟨hp, ?_⟩) (hb.frame (· ∈ before)), fun _ => ?_⟩
  · rw [hps, List.mem_append] at hp
    exact Or.inr hp
  · obtain ⟨_, _, _, _, _, hz, hn⟩ := hW
    refine ⟨hok, _, _, ([] ++ pa) ++ pv, ⟨[] ++ pa, pv, trodAll_append (hargs _ (fun _ _ => rfl)) (hres _ _ _), hvars _ (fun _ _ => rfl), rfl, ?_, ?_⟩, ?_⟩
    · intro b off hp
      have hin : MemPlace.cell b off ∈ before := by rw [hps]; simpa using hp
      rw [hb.frozen (hlt _ hin)]
      exact hz b off hin
    · intro ha
      have := hn ha
      rw [hps] at this
      simpa using this
    · intro p hp _
      rw [hps]
      simpa using hp

end Go.Dw
