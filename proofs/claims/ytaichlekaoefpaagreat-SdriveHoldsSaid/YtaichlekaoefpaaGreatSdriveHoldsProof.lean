/-
  Proved: 'SdriveHolds' returns true whatever its arguments are, on every schedule; the arguments read as they did, and nothing that lay in memory has turned; no condition.
  How: an abstract machine, proved sound over any program (the Dw texts), is run by the kernel from worlds of which only what a contract says is known; each function has its contract, the law's loop its invariant.
-/
import Derived.Test.YtaichlekaoefpaaGreatM12
import Derived.Test.YtaichlekaoefpaaGreatRows
import Derived.KernelRfl
import Derived.WalkKit
import Derived.ProofKit
import Derived.OpenShut
namespace Go.Proofs.YtaichlekaoefpaaGreat.sdriveHolds
open Go.ChangeShapes Go.WideShapes Go.ChangeAt Go.RowKit
set_option linter.unusedVariables false

theorem own : ownKnob Tryz.prog.godebug = none := by kernel_rfl
theorem paramsOk : ∀ t ∈ Tryz.f4.params.toList, Tryz.prog.readableRec t = true ∧ t < Tryz.prog.types.size := fun t ht => by
  rw [Tryz.params4] at ht
  simp only [List.mem_cons, List.not_mem_nil, or_false] at ht
  rcases ht with rfl | rfl | rfl
  all_goals exact ⟨by kernel_rfl, of_decide_eq_true (by kernel_rfl)⟩

set_option maxRecDepth 100000 in
theorem lifted (os : Os) (started : os.Started) (H : Type) (enc : TypeId × Value → H) :
    ReturnsInHanded {} Tryz.checked os 4 .any (Rows.sdriveHoldsSpec.pre6 enc Tryz.prog Tryz.f4 Rows.sdriveHoldsRow.domain false) (Rows.sdriveHoldsSpec.post enc Tryz.prog Tryz.f4 false true false false) := by
  refine returnsInHanded_of_change_sized (C := Tryz.checked) own started (by kernel_rfl) Tryz.func4
    (ChangeSpec.witness6 (enc := enc) (C := Tryz.checked) false ⟨#[], #[.int .i64 0, .agg #[.bool false, .bool false, .bool false], .slice none 0 0], []⟩ 8 (by kernel_rfl) (by kernel_rfl) (by kernel_rfl) (by kernel_rfl)) ?_
  intro W base args ds gs before hval0 hW hcnd hsized _
  have hval : ∀ (j : Nat) t v, Tryz.f4.params[j]? = some t → args[j]? = some v → Value.okWide Tryz.prog W .any base t v := hval0
  have hW' := hW
  obtain ⟨p, q, hA0, hV, rfl, hfz, hnd⟩ := hW
  have hK : DataW.TrodAll enc Tryz.prog W 0 (fun _ => true) true Tryz.f4.params.toList args.toList ds p := hA0
  have hA := hK
  rw [Tryz.params4] at hA hval
  obtain ⟨v0, r0, d0, s0, p0, q0, e0, rfl, rfl, h0, hB0⟩ := trodAll_cons hA
  obtain ⟨v1, r1, d1, s1, p1, q1, rfl, rfl, rfl, h1, hB1⟩ := trodAll_cons hB0
  obtain ⟨v2, r2, d2, s2, p2, q2, rfl, rfl, rfl, h2, hB2⟩ := trodAll_cons hB1
  obtain ⟨rfl, rfl, rfl⟩ := trodAll_nil hB2
  obtain rfl : args = #[v0, v1, v2] := Array.ext' e0
  obtain ⟨rfl, rfl⟩ := trodVars_none hV
  have hlt : ∀ x ∈ p0 ++ (p1 ++ (p2 ++ [])), x.block < W.heap.size := fun x hx => hW'.lt x (by simpa using hx)
  obtain ⟨x0, rfl⟩ := okWide_int Tryz.underlying3 (hval 0 3 v0 rfl rfl)
  obtain ⟨y1, z1, u1, rfl⟩ := Dw.okWide_bools3 Tryz.underlying23 (by kernel_rfl) (by kernel_rfl) Tryz.underlying4 (hval 1 23 v1 rfl rfl)
  obtain ⟨a2, l2, c2, rfl⟩ := okWide_slice Tryz.underlying88 (hval 2 88 v2 rfl rfl)
  obtain ⟨fu2, h2f⟩ := h2
  obtain ⟨acts, hacts⟩ := Tryz.tns_open h2f (fun n hn => by
    rw [Tryz.params4] at hsized
    have := List.all_eq_true.1 hsized n (DataW.weights_mem_each (j := 2) (t := 88) (d := d2) rfl rfl n hn)
    simpa using this)
  refine (Tryz.sholds_walk (fun w => Tryz.slives_any w) hacts x0 y1 z1 u1).mono fun e W' ⟨he, hg⟩ => ?_
  subst he
  exact ⟨_, rfl, Dw.post_of_below (pa := p0 ++ (p1 ++ (p2 ++ []))) (pv := []) hW' (fun _ _ _ => (trodAll_cons_mk (shut_bool Tryz.underlying4 _) trodAll_mk0)) (fun sp hsp => Dw.trodAll_stays laidOutAll hg paramsOk hK hlt (fun x hx => hsp x (by simpa using hx))) (fun _ _ => rfl) (by simp) hg
    (ok_one (by kernel_rfl) rfl (okWide_bool_mk Tryz.underlying4 _))⟩

theorem over : Rows.sdriveHoldsRow.holds Tryz.pinned (OpenSpec.ofChange Rows.sdriveHoldsSpec) :=
  OpenClaim.holds_of_wide 4 Tryz.f4 rfl rfl rfl rfl rfl rfl rfl ⟨rfl, rfl, rfl, rfl, rfl⟩ rfl rfl rfl rfl rfl (by kernel_rfl) Tryz.func4 closedFacts
    (of_decide_eq_true (by kernel_rfl)) (by unfold Func.isWrapper; first | (rw [if_pos (by decide +kernel)]; kernel_rfl) | (rw [if_neg (by decide +kernel)]; exact ⟨rfl, rfl⟩))
    (fun os started H enc _ => lifted os started H enc)

theorem proved : Rows.SdriveHoldsSaid :=
  over
#print axioms proved
end Go.Proofs.YtaichlekaoefpaaGreat.sdriveHolds
