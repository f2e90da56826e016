import Derived.Test.YtihjjmhkfbcdeaaProg
import Derived.Sort.OwnSortedInts
import Derived.Maps.AppendAt
import Derived.KernelRfl
import Derived.Maps.RangeWalk
import Derived.WalkKit
namespace Go.Proofs
open Go.RowKit Go.Maps Go.Sort

theorem Try.infoB : (Try.prog.info? 5).map (fun i => (i.zero, i.size, i.bytes)) = some (some (.int .u8 0), 1, 1) := by kernel_rfl

set_option maxRecDepth 100000 in
set_option maxHeartbeats 1000000 in
theorem Try.row_any (k : Nat) (v : Int) (w : World) (hk : k ≤ 80) :
    Calls Try.prog 12 #[.int .i64 k, .int .u8 v, .bool false] w fun e w' => ∃ x, e = .returned x ∧ w'.ownsRow w.heap.size 5 1 x (k * 512) (List.replicate (k * 512) (.int .u8 v)) ∧ Below w.heap.size w w' := by
  obtain ⟨i0, hi, hz0, hz1, hzb⟩ := info_parts Try.infoB
  go_enter Try.func12, Try.ntmps12
  go_wp2
  go_loopw [7, 8] (fun b i wr => ∃ m : Nat, m ≤ k * 512 ∧ i = .int .i64 m ∧ wr.ownsRow w.heap.size 5 1 b m (List.replicate m (.int .u8 v)) ∧ Below w.heap.size w wr) (fun _ i _ => k * 512 - (intOf i).toNat)
  case atStart => exact ⟨0, Nat.zero_le _, rfl, World.ownsRow_nil _ _ _ _, Below.refl _ _⟩
  case round =>
    obtain ⟨m, hm, rfl, hrow, hnx⟩ := hrel
    go_wp2_with (first
      | (at_builtin; go_loud (refine wpList_append_own _ rfl _ _ 30 rfl w.heap.size 5 i0 (.int .u8 0) 1 1 Try.underlying30 hi hz0 hz1 hzb rfl (by decide) _ _ _ rfl (hrow.alloc _) ⟨wr.heap.size, 0, none⟩ 1 1 [.int .u8 v] rfl rfl (cell_one_new _ _ _) (by simp [Value.oneCell']) (by unfold maxLen at *; omega) (by omega) (by have := hnx.size; simp; omega) ?_); intro v' w3 hown' hg3 hnil3; go_frame)
      | go_in)
    · refine ⟨⟨m + 1, by omega, by push_cast; rfl, ?_, ?_⟩, ?_⟩
      · rw [List.replicate_succ']; exact hown'
      · exact (hnx.alloc hnx.size _).grown hg3 (by have := hnx.size; simp; omega) (fun j hj => (hrow.lt j hj).1)
      · simp only [intOf]; omega
    · have hmk : m = k * 512 := by omega
      subst hmk
      go_wp2
      go_ret
      exact ⟨u7, rfl, hrow, hnx⟩
end Go.Proofs
