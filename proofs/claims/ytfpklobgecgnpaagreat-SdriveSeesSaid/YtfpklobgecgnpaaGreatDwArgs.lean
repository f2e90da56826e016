/-
  DwArgs: what comes in: arguments that read as they did, and their shapes.
-/
import Derived.Test.YtfpklobgecgnpaaGreatDwOrc
import Derived.Carry
import Derived.OpenShut
import Derived.ProofKit
namespace Go.Dw
set_option linter.unusedSimpArgs false
set_option linter.unusedVariables false
noncomputable section
open Go.RowKit Go.WideShapes Go.ChangeShapes

/-- Arguments read as they did, where nothing that was there has turned. -/
theorem trodAll_stays {H : Type} {enc : TypeId × Value → H} {P : Program} {W W' : World} (hl : laidOutB P = true) (hb : Below W.heap.size W W') {sp : Nat → Bool} : ∀ {ts : List TypeId} {vs : List Value} {ds : List (DataW H)} {ps : List MemPlace},
    (∀ t ∈ ts, P.readableRec t = true ∧ t < P.types.size) → DataW.TrodAll enc P W 0 (fun _ => true) true ts vs ds ps → (∀ x ∈ ps, x.block < W.heap.size) → (∀ x ∈ ps, sp x.block = true) → DataW.TrodAll enc P W' 0 sp true ts vs ds ps
  | [], vs, ds, ps, _, h, _, _ => by
    obtain ⟨rfl, rfl, rfl⟩ := trodAll_nil h
    exact trodAll_mk0
  | t :: ts, vs, ds, ps, ht, h, hlt, hsp => by
    obtain ⟨v, vs', d, ds', p, q, rfl, rfl, rfl, h0, h1⟩ := trodAll_cons h
    have ht0 := ht t (List.mem_cons_self ..)
    refine trodAll_cons_mk (WideElems.Trod_stays hl ht0.1 ht0.2 h0 (fun x hx => hb.same (hlt x (List.mem_append_left _ hx))) (fun x hx => hsp x (List.mem_append_left _ hx))) ?_
    exact trodAll_stays hl hb (fun u hu => ht u (List.mem_cons_of_mem _ hu)) h1 (fun x hx => hlt x (List.mem_append_right _ hx)) (fun x hx => hsp x (List.mem_append_right _ hx))

/-- A struct of three bools. -/
theorem okWide_bools3 {P : Program} {w : World} {r : Reach} {base : Nat} {t b : TypeId} {fs : Array Field} {v : Value} (ht : P.underlying t = some (.struct fs)) (hn : P.cellsOf t = 3) (hc : P.cellTypes P.depth t = some [b, b, b])
    (hb : P.underlying b = some .bool) (h : Value.okWide P w r base t v) : ∃ x y z, v = .agg #[.bool x, .bool y, .bool z] := by
  simp only [Value.okWide, ht] at h
  obtain ⟨cs, rfl, hsz, ts, hts, _, hcell⟩ := h
  rw [hc] at hts
  cases hts
  rw [hn] at hsz
  have cell : ∀ i v, i < 3 → cs[i]? = some v → ∃ x, v = .bool x := fun i v hi hv => by
    obtain ⟨u, hu, hok⟩ := hcell i v hv
    have e : u = b := by
      have hi' : i % [b, b, b].length = i := Nat.mod_eq_of_lt (by simpa using hi)
      rw [hi'] at hu
      match i, hi with
      | 0, _ => simpa using hu.symm
      | 1, _ => simpa using hu.symm
      | 2, _ => simpa using hu.symm
    subst e
    simp only [Cell.okWide, hb] at hok
    cases v <;> simp_all [Cell.ok]
  obtain ⟨x, hx⟩ := cell 0 cs[0] (by omega) (Array.getElem?_eq_getElem (by omega))
  obtain ⟨y, hy⟩ := cell 1 cs[1] (by omega) (Array.getElem?_eq_getElem (by omega))
  obtain ⟨z, hz⟩ := cell 2 cs[2] (by omega) (Array.getElem?_eq_getElem (by omega))
  refine ⟨x, y, z, ?_⟩
  congr 1
  apply Array.ext
  · rw [hsz]; rfl
  · intro i h1 h2
    match i, h2 with
    | 0, _ => exact hx
    | 1, _ => exact hy
    | 2, _ => exact hz

/-- The valuation of listed integers and bools. -/
def valOf (is : List Int) (bs : List Bool) : Val := ⟨fun i => is.getD i 0, fun i => bs.getD i false⟩

/-- The machine's word for a call with arguments. -/
theorem run_args {P : Program} (hmo : P.follows .mixedOrders = true) {orc : FuncId → List AV → Heap → Option (List (AV × Heap))} {ρ : Val} (hor : ∀ w, OrcOk P ρ w orc) {n : Nat} {f : FuncId} {args : List AV} {vals : List Value}
    (ha : RL ρ (fun _ => none) args vals) (h : Ob.den ρ (ev P orc n (.call f args heap0 isTrue))) (w : World) :
    Calls P f vals.toArray w fun e w' => e = .returned (.bool true) ∧ Below w.heap.size w w' :=
  calls_true hmo (hor w) (inv0 w) ha h
theorem run_args_good {P : Program} (hmo : P.follows .mixedOrders = true) {orc : FuncId → List AV → Heap → Option (List (AV × Heap))} {ρ : Val} (hor : ∀ w, OrcOk P ρ w orc) {n : Nat} {f : FuncId} {args : List AV} {vals : List Value}
    (ha : RL ρ (fun _ => none) args vals) (h : (ev P orc n (.call f args heap0 isTrue)).good = true) (w : World) :
    Calls P f vals.toArray w fun e w' => e = .returned (.bool true) ∧ Below w.heap.size w w' :=
  run_args hmo hor ha (Ob.den_of_good h) w

end
end Go.Dw
