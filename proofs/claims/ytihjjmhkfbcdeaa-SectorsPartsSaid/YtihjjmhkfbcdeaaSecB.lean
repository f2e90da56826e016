import Derived.Test.YtihjjmhkfbcdeaaProg
import Derived.Sort.OwnSortedInts
import Derived.Maps.AppendAt
import Derived.KernelRfl
import Derived.Maps.RangeWalk
import Derived.Deep.MidRow
import Derived.Deep.WholeRow
import Derived.WalkKit
namespace Go.Proofs
open Go.RowKit Go.Maps Go.Sort

set_option maxRecDepth 100000 in
set_option maxHeartbeats 1000000 in
theorem Try.has_any (S N : Nat) (sl : Option Addr) (p n : Int) (w : World) (hs : w.cell? ⟨S, 0, none⟩ = some (.slice sl N N)) (hN : N ≤ 4096) (hp : 0 ≤ p) :
    Calls Try.prog 9 #[.pointer (some ⟨S, 0, none⟩), .int .u64 p, .int .u64 n] w fun e w' => e = .returned (.bool (decide (p ≤ N ∧ n ≤ N - p))) ∧ w' = w := by
  have hw1 : IntKind.wrap .u64 (N : Int) = N := by unfold IntKind.wrap; simp [IntKind.signed, IntKind.bits]; omega
  by_cases ha : p ≤ N
  · have hw2 : IntKind.wrap .u64 ((N : Int) - p) = N - p := by unfold IntKind.wrap; simp [IntKind.signed, IntKind.bits]; omega
    go_enter Try.func9, Try.ntmps9
    go_wp2
    go_ret
    refine ⟨?_, rfl⟩
    simp [ha]
  · go_enter Try.func9, Try.ntmps9
    go_wp2
    go_ret
    refine ⟨?_, rfl⟩
    have hb : ¬ p ≤ (N : Int) := by omega
    simp [hb]

def Try.RR (v : Value) : Option (DataW Unit × List MemPlace) :=
  match v with
  | .agg cs => if cs.size = 512 ∧ cs.all (·.oneCell') = true then some (.nil, []) else none
  | _ => none
theorem Try.RR_inv {v : Value} {z : DataW Unit × List MemPlace} (h : Try.RR v = some z) : ∃ cs, v = .agg cs ∧ cs.size = 512 ∧ cs.all (·.oneCell') = true := by
  unfold Try.RR at h
  split at h
  · split at h
    · rename_i cs hc
      exact ⟨cs, rfl, hc⟩
    · cases h
  · cases h
theorem Try.RR_mk {cs : Array Value} (h : cs.size = 512) (h1 : cs.all (·.oneCell') = true) : Try.RR (.agg cs) = some (.nil, []) := by unfold Try.RR; simp only; rw [if_pos ⟨h, h1⟩]

/-- What a store's call may turn: the sectors' block and the map's. -/
structure Try.Moved (B M : Nat) (w w' : World) : Prop where
  os : w'.os = w.os
  tape : w'.tape = w.tape
  output : w'.output = w.output
  size : w.heap.size ≤ w'.heap.size
  block : ∀ k, k < w.heap.size → k ≠ B → k ≠ M → w'.heap[k]? = w.heap[k]?
theorem Try.Moved.refl (B M : Nat) (w : World) : Try.Moved B M w w := ⟨rfl, rfl, rfl, Nat.le_refl _, fun _ _ _ _ => rfl⟩
theorem Try.Moved.trans {B M : Nat} {a b c : World} (h : Try.Moved B M a b) (k : Try.Moved B M b c) : Try.Moved B M a c :=
  ⟨k.os.trans h.os, k.tape.trans h.tape, k.output.trans h.output, Nat.le_trans h.size k.size, fun j hj h1 h2 => (k.block j (Nat.lt_of_lt_of_le hj h.size) h1 h2).trans (h.block j hj h1 h2)⟩
theorem Try.Moved.drew {B M : Nat} {a w : World} (h : Try.Moved B M a w) : Try.Moved B M a w.drew := ⟨h.os, h.tape, h.output, h.size, h.block⟩
theorem Try.Moved.alloc {B M : Nat} {a w : World} (h : Try.Moved B M a w) (o : Obj) : Try.Moved B M a (w.alloc o) :=
  ⟨h.os, h.tape, h.output, by have := h.size; simp; omega, fun k hk h1 h2 => (Below.heap_alloc w o k (Nat.lt_of_lt_of_le hk h.size)).trans (h.block k hk h1 h2)⟩
theorem Try.Moved.grown {B M : Nat} {a w w' : World} {r : Nat} (h : Try.Moved B M a w) (hg : w.grownBy w' (some r)) (hr : r = B ∨ r = M ∨ a.heap.size ≤ r) : Try.Moved B M a w' :=
  ⟨hg.os.trans h.os, hg.tape.trans h.tape, hg.output.trans h.output, Nat.le_trans h.size hg.size, fun k hk h1 h2 =>
    (hg.block k (Nat.lt_of_lt_of_le hk h.size) (fun e => by have := Option.some.inj e; omega)).trans (h.block k hk h1 h2)⟩
theorem Try.setCells_grown (b : Nat) : ∀ (vs : List Value) (o : Nat) (w : World), w.grownBy (w.setCells b o vs) (some b)
  | [], _, w => ⟨rfl, rfl, rfl, Nat.le_refl _, fun _ _ _ => rfl⟩
  | v :: r, o, w => by
    rw [World.setCells]
    have h2 := Try.setCells_grown b r (o + 1) (w.setCell ⟨b, o, none⟩ v)
    exact ⟨h2.os, h2.tape, h2.output, Nat.le_trans (by simp) h2.size, fun k hk hne => (h2.block k (by simpa using hk) hne).trans (Below.heap_setCell w _ _ k (fun e => hne (by rw [e])))⟩
theorem Try.Moved.below {B M base : Nat} {w w' : World} (h : Try.Moved B M w w') (hB : base ≤ B) (hM : base ≤ M) (hw : base ≤ w.heap.size) : Below base w w' :=
  ⟨h.os, h.tape, h.output, h.size, fun k hk => h.block k (by omega) (by omega) (by omega)⟩

/-- A store of n sectors at S: its cells in block B, the map of the sectors put in block M (at most m). -/
structure Try.Store (w : World) (S B M n m : Nat) : Prop where
  s0 : w.cell? ⟨S, 0, none⟩ = some (.slice (some ⟨B, 0, none⟩) n n)
  s1 : w.cell? ⟨S, 1, none⟩ = some (.map (some M))
  full : ∀ j, j < n * 512 → ∃ v, w.cell? ⟨B, j, none⟩ = some v ∧ v.oneCell' = true
  free : ∀ j, j < n * 512 → w.frozen? ⟨B, j, none⟩ = false
  map : ∃ D, w.ownsMap Try.prog 3 Try.RR M m D
  sb : S ≠ B
  sm : S ≠ M
  bm : B ≠ M
  bl : B < w.heap.size
theorem Try.Store.sl {w : World} {S B M n m : Nat} (h : Try.Store w S B M n m) : S < w.heap.size := World.block_lt_of_cell? w _ h.s0
theorem Try.Store.ml {w : World} {S B M n m : Nat} (h : Try.Store w S B M n m) : M < w.heap.size := by obtain ⟨D, hD⟩ := h.map; exact hD.lt
theorem Try.Store.kept {w w' : World} {S B M n m : Nat} (h : Try.Store w S B M n m) (hg : ∀ k, k < w.heap.size → (k = S ∨ k = B ∨ k = M) → w'.heap[k]? = w.heap[k]?) (hs : w.heap.size ≤ w'.heap.size) : Try.Store w' S B M n m := by
  have eS := hg S h.sl (Or.inl rfl)
  have eB := hg B h.bl (Or.inr (Or.inl rfl))
  have eM := hg M h.ml (Or.inr (Or.inr rfl))
  refine ⟨?_, ?_, fun j hj => ?_, fun j hj => ?_, ?_, h.sb, h.sm, h.bm, Nat.lt_of_lt_of_le h.bl hs⟩
  · rw [World.cell?_of_block (a := ⟨S, 0, none⟩) eS]; exact h.s0
  · rw [World.cell?_of_block (a := ⟨S, 1, none⟩) eS]; exact h.s1
  · rw [World.cell?_of_block (a := ⟨B, j, none⟩) eB]; exact h.full j hj
  · rw [World.frozen?_of_block (a := ⟨B, j, none⟩) eB]; exact h.free j hj
  · obtain ⟨D, es, clock, hb, F, hn, hD⟩ := h.map
    exact ⟨D, es, clock, eM.trans hb, F, hn, hD⟩
/-- n of the block's cells from o on, as a list. -/
theorem Try.Store.range {w : World} {S B M n m : Nat} (h : Try.Store w S B M n m) (i : Nat) (hi : i < n) : ∃ cs : List Value, cs.length = 512 ∧ w.rangeAt B (i * 512) cs ∧ ∀ v ∈ cs, v.oneCell' = true := by
  refine ⟨(List.range 512).map fun j => (w.cell? ⟨B, i * 512 + j, none⟩).getD default, by simp, fun j v hv => ?_, fun v hv => ?_⟩
  · simp only [List.getElem?_map, Option.map_eq_some_iff] at hv
    obtain ⟨k, hk, rfl⟩ := hv
    have hk' : k = j ∧ j < 512 := by
      rw [List.getElem?_eq_some_iff] at hk
      obtain ⟨h1, h2⟩ := hk
      simp at h1 h2
      exact ⟨h2.symm, h1⟩
    obtain ⟨rfl, hk2⟩ := hk'
    obtain ⟨u, hu, _⟩ := h.full (i * 512 + k) (by omega)
    rw [hu]; rfl
  · obtain ⟨k, hk, rfl⟩ := List.mem_map.1 hv
    have := List.mem_range.1 hk
    obtain ⟨u, hu, h1⟩ := h.full (i * 512 + k) (by omega)
    rw [hu]; exact h1
theorem Try.Store.there {w : World} {S B M n m : Nat} (h : Try.Store w S B M n m) (i : Nat) (hi : i < n) : w.there B (i * 512) 512 := fun j hj =>
  ⟨by obtain ⟨u, hu, _⟩ := h.full (i * 512 + j) (by omega); rw [hu]; rfl, h.free _ (by omega)⟩
end Go.Proofs
