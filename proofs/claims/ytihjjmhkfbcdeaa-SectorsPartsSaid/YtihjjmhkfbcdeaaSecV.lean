import Derived.Test.YtihjjmhkfbcdeaaSecU
import Derived.Laws.BytesArg
namespace Go.Proofs
open Go.RowKit Go.Maps Go.Sort

def Try.noKeys : Int → Bool := fun _ => false
def Try.noughts : Nat → Int := fun _ => 0

set_option maxRecDepth 100000 in
set_option maxHeartbeats 1000000 in
theorem Try.new_whole (n : Nat) (w : World) (h1 : 1 ≤ n) (hn : n ≤ 4096) :
    Calls Try.prog 8 #[.int .i64 n] w fun e w' => ∃ S B M, e = .returned (.tuple #[.pointer (some ⟨S, 0, none⟩), .int .i64 0]) ∧ Try.Whole w' S B M n 0 Try.noughts Try.noKeys ∧ Below w.heap.size w w' ∧ w.heap.size ≤ S ∧ w.heap.size ≤ B ∧ w.heap.size ≤ M := by
  obtain ⟨i0, hi0, hz0, hz1, hzb⟩ := info_parts Try.info50b
  have hmk := run_makeSlice (P := Try.prog) w 45 50 i0 (.agg (Array.replicate 512 (.int .u8 0))) Try.underlying45 hi0 hz0 .i64 .i64 n n (by omega) (Int.le_refl _) (by rw [hz1]; simp; omega) (by rw [hzb]; omega) (by omega)
  simp only [hz1, Int.toNat_natCast] at hmk
  have hmm := @run_makeMap Try.prog
  obtain ⟨C, hC⟩ : ∃ C, madeCells (Value.agg (Array.replicate 512 (Value.int .u8 0))).cells (n * 512) = C := ⟨_, rfl⟩
  have h1C : ∀ j, j < n * 512 → C[j]? = some (.int .u8 0) := by
    intro j hj
    have h5 : j % 512 < 512 := Nat.mod_lt _ (by omega)
    have e : C[j]? = some ((Array.replicate 512 (Value.int .u8 0))[j % 512]!) := by rw [← hC]; simp [madeCells, Value.cells, hj]
    rw [e, getElem!_pos _ _ (by simpa using h5), Array.getElem_replicate]
  rw [hC] at hmk
  clear hC
  go_enter Try.func8, Try.ntmps8
  go_wp2
  go_ret2
  have e1 : (((w.alloc (.cells C 50)).alloc (.map #[] 0)).alloc (.cells #[.slice (some ⟨w.heap.size, 0, none⟩) n n, .map (some (w.heap.size + 1))] 48)).heap[w.heap.size]? = some (.cells C 50 (0, 0)) := by
    rw [Below.heap_alloc _ _ _ (by simp; omega), Below.heap_alloc _ _ _ (by simp)]
    exact heap_alloc_last w _
  have e2 : (((w.alloc (.cells C 50)).alloc (.map #[] 0)).alloc (.cells #[.slice (some ⟨w.heap.size, 0, none⟩) n n, .map (some (w.heap.size + 1))] 48)).heap[w.heap.size + 2]? = some (.cells #[.slice (some ⟨w.heap.size, 0, none⟩) n n, .map (some (w.heap.size + 1))] 48 (0, 0)) := by
    have := heap_alloc_last ((w.alloc (.cells C 50)).alloc (.map #[] 0)) (.cells #[.slice (some ⟨w.heap.size, 0, none⟩) n n, .map (some (w.heap.size + 1))] 48)
    simpa using this
  refine ⟨w.heap.size + 2, w.heap.size, w.heap.size + 1, rfl, ⟨?_, ?_, fun j hj => ?_, fun j hj => ?_, ⟨.map [], ?_, fun _ => rfl⟩, by omega, by omega, by omega, by simp; omega⟩, ?_, by omega, by omega, by omega⟩
  · rw [cell_of_row _ _ 0 _ _ (0, 0) e2]; rfl
  · rw [cell_of_row _ _ 1 _ _ (0, 0) e2]; rfl
  · rw [cell_of_row _ _ j C 50 (0, 0) e1]; exact h1C j hj
  · simp [World.frozen?, e1]
  · have := (World.ownsMap_made (w.alloc (.cells C 50)) Try.prog 3 Try.RR).alloc (.cells #[.slice (some ⟨w.heap.size, 0, none⟩) n n, .map (some (w.heap.size + 1))] 48)
    simpa using this
  · exact (((Below.refl _ w).alloc (Nat.le_refl _) _).alloc (by simp) _).alloc (by simp; omega) _

/-- The image as a string. -/
theorem Try.image_string (f : Nat → Int) (N : Nat) (hN : 0 < N) : ∃ s : ByteArray, ∀ (w : World) (base : Nat) (v : Value), w.ownsRow base 5 1 v N (Try.image f N) →
    ∃ g cap, v = .slice (some ⟨g, 0, none⟩) N cap ∧ ∀ w', Below w.heap.size w w' → (convert 30 9 (.slice (some ⟨g, 0, none⟩) N cap)).run Try.prog w' = .ok (.string s) w' := by
  refine ⟨strOfNums ((List.range N).map f), fun w base v h => ?_⟩
  rcases h.2 with ⟨rfl, h0⟩ | ⟨g, cap, cur, rfl, hg, hblk, hr⟩
  · omega
  · refine ⟨g, cap, rfl, fun w' hb => ?_⟩
    have h' := Try.row_kept h hb
    exact run_convert_bytes_arg w' 30 5 Try.underlying30 Try.underlying5 g 0 N cap ((List.range N).map f) (by simp) (fun i hi => by
      rw [Nat.zero_add, h'.cellAt i (by omega)]
      simp [Try.image, hi]) 9 Try.underlying9

/-- The numbers q, q + 1, .. -/
def Try.run (q k : Nat) : List Int := (List.range k).map fun (j : Nat) => (q : Int) + (j : Int)
theorem Try.run_length (q k : Nat) : (Try.run q k).length = k := by simp [Try.run]
theorem Try.run_nodup (q k : Nat) : (Try.run q k).Nodup := by
  unfold Try.run
  refine List.pairwise_map.2 ((List.nodup_range (n := k)).imp fun {a b} h e => h ?_)
  omega
theorem Try.run_mem (q k : Nat) (x : Int) : x ∈ Try.run q k ↔ Try.keysAt Try.noKeys q k x = true := by
  unfold Try.run Try.keysAt Try.noKeys
  simp only [List.mem_map, List.mem_range, Bool.false_or, decide_eq_true_eq]
  constructor
  · rintro ⟨j, hj, rfl⟩
    omega
  · intro ⟨h1, h2⟩
    exact ⟨(x - q).toNat, by omega, by omega⟩
end Go.Proofs
