import Derived.Test.YtihjjmhkfbcdeaaSecE
import Derived.Test.YtihjjmhkfbcdeaaSecF
import Derived.Maps.Views
import Derived.Lib.SlKeysI
namespace Go.Proofs
open Go.RowKit Go.Maps Go.Sort

/-- A store of n sectors at S, with what its cells hold (f: a byte for each place) and which sectors were put since it was made (K). -/
structure Try.Whole (w : World) (S B M n m : Nat) (f : Nat → Int) (K : Int → Bool) : Prop where
  s0 : w.cell? ⟨S, 0, none⟩ = some (.slice (some ⟨B, 0, none⟩) n n)
  s1 : w.cell? ⟨S, 1, none⟩ = some (.map (some M))
  full : ∀ j, j < n * 512 → w.cell? ⟨B, j, none⟩ = some (.int .u8 (f j))
  free : ∀ j, j < n * 512 → w.frozen? ⟨B, j, none⟩ = false
  map : ∃ D, w.ownsMap Try.prog 3 Try.RR M m D ∧ ∀ x : Int, has D (.int .i64 x) = K x
  sb : S ≠ B
  sm : S ≠ M
  bm : B ≠ M
  bl : B < w.heap.size
theorem Try.Whole.store {w : World} {S B M n m : Nat} {f : Nat → Int} {K : Int → Bool} (h : Try.Whole w S B M n m f K) : Try.Store w S B M n m := by
  obtain ⟨D, hD, _⟩ := h.map
  exact ⟨h.s0, h.s1, fun j hj => ⟨_, h.full j hj, rfl⟩, h.free, ⟨D, hD⟩, h.sb, h.sm, h.bm, h.bl⟩
theorem Try.Whole.kept {w w' : World} {S B M n m : Nat} {f : Nat → Int} {K : Int → Bool} (h : Try.Whole w S B M n m f K) (hg : ∀ k, k < w.heap.size → (k = S ∨ k = B ∨ k = M) → w'.heap[k]? = w.heap[k]?) (hs : w.heap.size ≤ w'.heap.size) : Try.Whole w' S B M n m f K := by
  have eS := hg S h.store.sl (Or.inl rfl)
  have eB := hg B h.bl (Or.inr (Or.inl rfl))
  have eM := hg M h.store.ml (Or.inr (Or.inr rfl))
  refine ⟨?_, ?_, fun j hj => ?_, fun j hj => ?_, ?_, h.sb, h.sm, h.bm, Nat.lt_of_lt_of_le h.bl hs⟩
  · rw [World.cell?_of_block (a := ⟨S, 0, none⟩) eS]; exact h.s0
  · rw [World.cell?_of_block (a := ⟨S, 1, none⟩) eS]; exact h.s1
  · rw [World.cell?_of_block (a := ⟨B, j, none⟩) eB]; exact h.full j hj
  · rw [World.frozen?_of_block (a := ⟨B, j, none⟩) eB]; exact h.free j hj
  · obtain ⟨D, ⟨es, clock, hb, F, hn, hD⟩, hK⟩ := h.map
    exact ⟨D, ⟨es, clock, eM.trans hb, F, hn, hD⟩, hK⟩
theorem Try.Whole.drew {w : World} {S B M n m : Nat} {f : Nat → Int} {K : Int → Bool} (h : Try.Whole w S B M n m f K) : Try.Whole w.drew S B M n m f K := h.kept (fun _ _ _ => rfl) (Nat.le_refl _)
theorem Try.Whole.mono {w : World} {S B M n m m' : Nat} {f : Nat → Int} {K : Int → Bool} (h : Try.Whole w S B M n m f K) (hm : m ≤ m') : Try.Whole w S B M n m' f K := by
  obtain ⟨D, hD, hK⟩ := h.map
  exact ⟨h.s0, h.s1, h.full, h.free, ⟨D, hD.mono hm, hK⟩, h.sb, h.sm, h.bm, h.bl⟩
theorem Try.Whole.congr {w : World} {S B M n m : Nat} {f f' : Nat → Int} {K K' : Int → Bool} (h : Try.Whole w S B M n m f K) (hf : ∀ j, j < n * 512 → f' j = f j) (hK : ∀ x, K' x = K x) : Try.Whole w S B M n m f' K' := by
  obtain ⟨D, hD, hK0⟩ := h.map
  exact ⟨h.s0, h.s1, fun j hj => by rw [hf j hj]; exact h.full j hj, h.free, ⟨D, hD, fun x => (hK0 x).trans (hK x).symm⟩, h.sb, h.sm, h.bm, h.bl⟩
theorem Try.Whole.range {w : World} {S B M n m : Nat} {f : Nat → Int} {K : Int → Bool} (h : Try.Whole w S B M n m f K) (i : Nat) (hi : i < n) : w.rangeAt B (i * 512) ((List.range 512).map fun j => Value.int .u8 (f (i * 512 + j))) := by
  intro j v hv
  simp only [List.getElem?_map, Option.map_eq_some_iff] at hv
  obtain ⟨k, hk, rfl⟩ := hv
  have hk' : k = j ∧ j < 512 := by
    rw [List.getElem?_eq_some_iff] at hk
    obtain ⟨h1, h2⟩ := hk
    simp at h1 h2
    exact ⟨h2.symm, h1⟩
  obtain ⟨rfl, hk2⟩ := hk'
  exact h.full (i * 512 + k) (by omega)

/-- Sector i filled with v. -/
def Try.fillAt (f : Nat → Int) (p k : Nat) (v : Int) (j : Nat) : Int := if p * 512 ≤ j ∧ j < (p + k) * 512 then v else f j
/-- The keys p, p + 1, .. p + k - 1 besides. -/
def Try.keysAt (K : Int → Bool) (p k : Nat) (x : Int) : Bool := K x || decide ((p : Int) ≤ x ∧ x < p + k)

theorem Try.Whole.set {w : World} {S B M n m : Nat} {f : Nat → Int} {K : Int → Bool} (h : Try.Whole w S B M n m f K) (i : Nat) (hi : i < n) (v : Int) : Try.Whole (w.setCells B (i * 512) (List.replicate 512 (.int .u8 v))) S B M n m (Try.fillAt f i 1 v) K := by
  have hg := Try.setCells_grown B (List.replicate 512 (.int .u8 v)) (i * 512) w
  have eS := hg.block S h.store.sl (fun e => h.sb (Option.some.inj e))
  have eM := hg.block M h.store.ml (fun e => h.bm (Option.some.inj e).symm)
  refine ⟨?_, ?_, fun j hj => ?_, fun j hj => ?_, ?_, h.sb, h.sm, h.bm, Nat.lt_of_lt_of_le h.bl hg.size⟩
  · rw [World.cell?_of_block (a := ⟨S, 0, none⟩) eS]; exact h.s0
  · rw [World.cell?_of_block (a := ⟨S, 1, none⟩) eS]; exact h.s1
  · unfold Try.fillAt
    by_cases hin : i * 512 ≤ j ∧ j < i * 512 + 512
    · obtain ⟨d, rfl⟩ : ∃ d, j = i * 512 + d := ⟨j - i * 512, by omega⟩
      have hd : d < (List.replicate 512 (Value.int .u8 v)).length := by rw [List.length_replicate]; omega
      rw [World.cell?_setCells_in B _ (i * 512) w (fun k hk => by rw [List.length_replicate] at hk; exact (h.store.there i hi k hk).1) d hd, if_pos (by omega), List.getElem_replicate]
    · rw [World.cell?_setCells_out B _ (i * 512) w ⟨B, j, none⟩ (fun _ _ => by
        show j < i * 512 ∨ i * 512 + (List.replicate 512 (Value.int .u8 v)).length ≤ j
        rw [List.length_replicate]
        omega), if_neg (by omega)]
      exact h.full j hj
  · rw [World.frozen?_setCells]; exact h.free j hj
  · obtain ⟨D, ⟨es, clock, hb, F, hn, hD⟩, hK⟩ := h.map
    exact ⟨D, ⟨es, clock, eM.trans hb, F, hn, hD⟩, hK⟩
theorem Try.Whole.put {w w' : World} {S B M n m m' : Nat} {f : Nat → Int} {K K' : Int → Bool} {D : DataW Unit} (h : Try.Whole w S B M n m f K) (hg : w.grownBy w' (some M)) (hD : w'.ownsMap Try.prog 3 Try.RR M m' D) (hK : ∀ x : Int, has D (.int .i64 x) = K' x) : Try.Whole w' S B M n m' f K' := by
  have eS := hg.block S h.store.sl (fun e => h.sm (Option.some.inj e))
  have eB := hg.block B h.bl (fun e => h.bm (Option.some.inj e))
  refine ⟨?_, ?_, fun j hj => ?_, fun j hj => ?_, ⟨D, hD, hK⟩, h.sb, h.sm, h.bm, Nat.lt_of_lt_of_le h.bl hg.size⟩
  · rw [World.cell?_of_block (a := ⟨S, 0, none⟩) eS]; exact h.s0
  · rw [World.cell?_of_block (a := ⟨S, 1, none⟩) eS]; exact h.s1
  · rw [World.cell?_of_block (a := ⟨B, j, none⟩) eB]; exact h.full j hj
  · rw [World.frozen?_of_block (a := ⟨B, j, none⟩) eB]; exact h.free j hj
end Go.Proofs
