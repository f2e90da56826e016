import Derived.Test.YtihjjmhkfbcdeaaSecWa
import Derived.Test.YtihjjmhkfbcdeaaSecX
namespace Go.Proofs
open Go.RowKit Go.Maps Go.Sort

theorem Try.parts_walk (hl : ∀ w, Calls Try.prog 6 #[] w fun e w' => e = .returned (.bool true) ∧ Below w.heap.size w w') (x0 p x2 v : Int) (hp : 0 ≤ p) (w : World) :
    Calls Try.prog 4 #[.int .i64 x0, .int .u64 p, .int .i64 x2, .int .u8 v] w fun e w' => e = .returned (.bool true) ∧ Below w.heap.size w w' := by
  obtain ⟨r0, hr0, c0⟩ := Try.pick_any x0 40 (by omega) (by omega)
  obtain ⟨k, hk, c2⟩ := Try.pick_any x2 40 (by omega) (by omega)
  rw [show ((40 : Nat) : Int) = 40 from rfl] at c0 c2
  have hlt : p.tmod 60 < 60 := Int.tmod_lt_of_pos p (by omega)
  have h0 : 0 ≤ p.tmod 60 := Int.tmod_nonneg _ hp
  obtain ⟨q, hq⟩ := Int.eq_ofNat_of_zero_le h0
  by_cases hin : q + k ≤ r0 + 1
  · exact Try.parts_in hl x0 p x2 v r0 k q w hr0 hk (by omega) hin c0 c2 hq
  · exact Try.parts_out hl x0 p x2 v r0 k q w hr0 hk (by omega) hin c0 c2 hq
end Go.Proofs
