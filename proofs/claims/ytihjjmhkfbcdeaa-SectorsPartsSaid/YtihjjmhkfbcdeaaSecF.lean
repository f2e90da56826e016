import Derived.Test.YtihjjmhkfbcdeaaSecE
namespace Go.Proofs
open Go.RowKit Go.Maps Go.Sort

theorem Try.info50b : (Try.prog.info? 50).map (fun i => (i.zero, i.size, i.bytes)) = some (some (.agg (Array.replicate 512 (.int .u8 0))), 512, 512) := by kernel_rfl

set_option maxRecDepth 100000 in
set_option maxHeartbeats 1000000 in
theorem Try.new_any (n : Nat) (w : World) (h1 : 1 ≤ n) (hn : n ≤ 4096) :
    Calls Try.prog 8 #[.int .i64 n] w fun e w' => ∃ S B M, e = .returned (.tuple #[.pointer (some ⟨S, 0, none⟩), .int .i64 0]) ∧ Try.Store w' S B M n 0 ∧ Below w.heap.size w w' ∧ w.heap.size ≤ S ∧ w.heap.size ≤ B ∧ w.heap.size ≤ M := by
  obtain ⟨hz, hsz⟩ := zero_of_info Try.info50
  obtain ⟨i0, hi0, hz0, hz1, hzb⟩ := info_parts Try.info50b
  have hmk := run_makeSlice (P := Try.prog) w 45 50 i0 (.agg (Array.replicate 512 (.int .u8 0))) Try.underlying45 hi0 hz0 .i64 .i64 n n (by omega) (Int.le_refl _) (by rw [hz1]; simp; omega) (by rw [hzb]; omega) (by omega)
  simp only [hz1, Int.toNat_natCast] at hmk
  have hmm := @run_makeMap Try.prog
  obtain ⟨C, hC⟩ : ∃ C, madeCells (Value.agg (Array.replicate 512 (Value.int .u8 0))).cells (n * 512) = C := ⟨_, rfl⟩
  have hsC : C.size = n * 512 := by rw [← hC]; exact size_madeCells _ _
  have h1C : ∀ j, j < n * 512 → ∃ v, C[j]? = some v ∧ v.oneCell' = true := by
    intro j hj
    have h5 : j % 512 < 512 := Nat.mod_lt _ (by omega)
    have e : C[j]? = some ((Array.replicate 512 (Value.int .u8 0))[j % 512]!) := by rw [← hC]; simp [madeCells, Value.cells, hj]
    refine ⟨_, e, ?_⟩
    rw [getElem!_pos _ _ (by simpa using h5)]
    simp [Value.oneCell']
  rw [hC] at hmk
  clear hC hz hsz
  go_enter Try.func8, Try.ntmps8
  go_wp2
  go_ret2
  have e1 : (((w.alloc (.cells C 50)).alloc (.map #[] 0)).alloc (.cells #[.slice (some ⟨w.heap.size, 0, none⟩) n n, .map (some (w.heap.size + 1))] 48)).heap[w.heap.size]? = some (.cells C 50 (0, 0)) := by
    rw [Below.heap_alloc _ _ _ (by simp; omega), Below.heap_alloc _ _ _ (by simp)]
    exact heap_alloc_last w _
  have e2 : (((w.alloc (.cells C 50)).alloc (.map #[] 0)).alloc (.cells #[.slice (some ⟨w.heap.size, 0, none⟩) n n, .map (some (w.heap.size + 1))] 48)).heap[w.heap.size + 2]? = some (.cells #[.slice (some ⟨w.heap.size, 0, none⟩) n n, .map (some (w.heap.size + 1))] 48 (0, 0)) := by
    have := heap_alloc_last ((w.alloc (.cells C 50)).alloc (.map #[] 0)) (.cells #[.slice (some ⟨w.heap.size, 0, none⟩) n n, .map (some (w.heap.size + 1))] 48)
    simpa using this
  refine ⟨w.heap.size + 2, w.heap.size, w.heap.size + 1, rfl, ⟨?_, ?_, fun j hj => ?_, fun j hj => ?_, ⟨.map [], ?_⟩, by omega, by omega, by omega, by simp; omega⟩, ?_, by omega, by omega, by omega⟩
  · rw [cell_of_row _ _ 0 _ _ (0, 0) e2]; rfl
  · rw [cell_of_row _ _ 1 _ _ (0, 0) e2]; rfl
  · rw [cell_of_row _ _ j C 50 (0, 0) e1]; exact h1C j hj
  · simp [World.frozen?, e1]
  · have := (World.ownsMap_made (w.alloc (.cells C 50)) Try.prog 3 Try.RR).alloc (.cells #[.slice (some ⟨w.heap.size, 0, none⟩) n n, .map (some (w.heap.size + 1))] 48)
    simpa using this
  · exact (((Below.refl _ w).alloc (Nat.le_refl _) _).alloc (by simp) _).alloc (by simp; omega) _

set_option maxRecDepth 100000 in
set_option maxHeartbeats 1000000 in
theorem Try.pick_any (x : Int) (k : Nat) (hk : 1 ≤ k) (hk2 : k ≤ 1000) : ∃ r : Nat, r < k ∧ ∀ w : World, Calls Try.prog 7 #[.int .i64 x, .int .i64 k] w fun e w' => e = .returned (.int .i64 r) ∧ w' = w := by
  have hlt : x.tmod k < k := Int.tmod_lt_of_pos x (by omega)
  have hgt : -(k : Int) < x.tmod k := by
    have := Int.lt_tmod_of_pos x (b := (k : Int)) (by omega)
    omega
  by_cases hneg : x.tmod k < 0
  · refine ⟨(x.tmod k + k).toNat, by omega, fun w => ?_⟩
    obtain ⟨m, hm⟩ : ∃ m, x.tmod k = m := ⟨_, rfl⟩
    rw [hm] at hlt hgt hneg ⊢
    have e1 : (((m + k).toNat : Nat) : Int) = m + k := by omega
    rw [e1]
    go_enter Try.func7, Try.ntmps7
    go_wp2
    go_ret
    exact ⟨rfl, rfl⟩
  · refine ⟨(x.tmod k).toNat, by omega, fun w => ?_⟩
    obtain ⟨m, hm⟩ : ∃ m, x.tmod k = m := ⟨_, rfl⟩
    rw [hm] at hlt hgt hneg ⊢
    have e1 : ((m.toNat : Nat) : Int) = m := by omega
    rw [e1]
    go_enter Try.func7, Try.ntmps7
    go_wp2
    go_ret
    exact ⟨rfl, rfl⟩
end Go.Proofs
