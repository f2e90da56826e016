import Derived.Test.YtihjjmhkfbcdeaaSecT
import Derived.Test.YtihjjmhkfbcdeaaOrc
import Derived.Deep.QuietTactic
import Derived.BigQuiet
namespace Go.Proofs
open Go.Shelf Go.RowKit Go.Maps Go.Sort

theorem Try.row_base {w : World} {base base' : Nat} {e : TypeId} {size : Nat} {v : Value} {n : Nat} {xs : List Value} (h : w.ownsRow base e size v n xs) (hb : base' ≤ base) : w.ownsRow base' e size v n xs := by
  rcases h.2 with h0 | ⟨g, cap, cur, hv, hg, hr⟩
  · exact ⟨h.1, Or.inl h0⟩
  · exact ⟨h.1, Or.inr ⟨g, cap, cur, hv, Nat.le_trans hb hg, hr⟩⟩
theorem Try.row_kept {w w' : World} {base : Nat} {e : TypeId} {size : Nat} {v : Value} {n : Nat} {xs : List Value} (h : w.ownsRow base e size v n xs) (hb : Below w.heap.size w w') : w'.ownsRow base e size v n xs := by
  rcases h.2 with h0 | ⟨g, cap, cur, hv, hg, hblk, hr⟩
  · exact ⟨h.1, Or.inl h0⟩
  · exact ⟨h.1, Or.inr ⟨g, cap, cur, hv, hg, (hb.block g (Array.getElem?_eq_some_iff.1 hblk).1).trans hblk, hr⟩⟩

theorem Try.sorted_keys (w : World) (Bm b n : Nat) (D : DataW Unit) (hBm : Bm < w.heap.size) (hm : w.cell? ⟨Bm, 0, none⟩ = some (.map (some b))) (hown : w.ownsMap Try.prog 3 Try.RR b n D) (hn : n ≤ 1000000) :
    Calls Try.prog 22 #[.func (.func 26) #[] #[.pointer (some ⟨Bm, 0, none⟩)]] w fun e w' => ∃ (v : Value) (ss : List Int) (t : TypeId), e = .returned v ∧ ss.Perm (intKeys D) ∧ w'.ownsRow w.heap.size t 1 v ss.length ((ss.mergeSort leI).map encZ) ∧ Below w.heap.size w w' := by
  have hsize := hown.size_le
  have hseq := AnyZI.keys_gives (ρ := Try.keys23k_ren) { Try.keys23k with } Fence.wide 2 trivial rfl (by omega) Bm b n D w hBm hm hown
  have cS := AnyZI.sorted_in Try.sortedA Fence.wide 5 trivial trivial trivial trivial rfl (by omega) (Try.sortsA _) (enters_of Try.func25 (by kernel_rfl) rfl) 26 #[.pointer (some ⟨Bm, 0, none⟩)] trivial (enters_of Try.func26 (by kernel_rfl) rfl) _ _ (by unfold maxLen; omega) (by omega) _ hseq
  exact (callsIn_wide.1 cS).mono fun e w' ⟨v, ss, he, hS, hrow, hnil, hb⟩ => ⟨v, ss, _, he, hS, hrow, hb⟩

set_option maxRecDepth 100000 in
theorem Try.keys_any (M : Nat) (w : World) :
    Calls Try.prog 23 #[.map (some M)] w fun e w' => e = .returned (.func (.func 26) #[] #[.pointer (some ⟨w.heap.size, 0, none⟩)]) ∧ w' = w.alloc (.cells #[.map (some M)] 46) := by
  have hmf : ∀ (fn : Fn) (first cap : Array Value) (w : World), (Instr.makeFunc fn first cap).run Try.prog w = .ok (.func fn first cap) w := fun _ _ _ _ => rfl
  go_enter Try.func23, Try.ntmps23
  go_wp2
  go_ret
  exact ⟨rfl, rfl⟩

set_option maxRecDepth 100000 in
set_option maxHeartbeats 1000000 in
theorem Try.fresh_any (S B M n m : Nat) (f : Nat → Int) (K : Int → Bool) (w : World) (st : Try.Whole w S B M n m f K) (hm : m ≤ 1000000) (L : List Int) (hnd : L.Nodup) (hL : ∀ x, x ∈ L ↔ K x = true) :
    Calls Try.prog 16 #[.pointer (some ⟨S, 0, none⟩)] w fun e w' => ∃ (v : Value) (t : TypeId), e = .returned v ∧ w'.ownsRow w.heap.size t 1 v L.length ((L.mergeSort leI).map encZ) ∧ Below w.heap.size w w' := by
  obtain ⟨D, hown, hK⟩ := st.map
  have hperm : L.Perm (intKeys D) := CollectedI.perm (left := fun _ => false) ⟨hnd, fun x => by rw [hL, hK]; simp⟩ hown Try.keyI Try.underlying3 (fun _ => rfl)
  have c1 := st.s1
  have hlt := st.store.ml
  have hown1 := hown.alloc (.cells #[.map (some M)] 46)
  have hBm : w.heap.size < (w.alloc (.cells #[.map (some M)] 46)).heap.size := by simp
  have hcm : (w.alloc (.cells #[.map (some M)] 46)).cell? ⟨w.heap.size, 0, none⟩ = some (.map (some M)) := by
    rw [cell_of_row _ _ 0 _ _ (0, 0) (heap_alloc_last w _)]; rfl
  have hs := Try.sorted_keys _ w.heap.size M m D hBm hcm hown1 hm
  go_enter Try.func16, Try.ntmps16
  go_wp2_with (first
    | (go_at_call 23; refine (Try.keys_any M _).mono ?_; rintro e w' ⟨rfl, hw⟩; subst hw)
    | (go_at_call 22; refine hs.mono ?_; rintro e w' ⟨v, ss, t, rfl, hss, hrow, hb⟩)
    | go_in)
  go_ret
  have hl : ss.length = L.length := hss.length_eq.trans hperm.length_eq.symm
  have hms : ss.mergeSort leI = L.mergeSort leI := mergeSort_of_perm_i (hss.trans hperm.symm)
  rw [hl, hms] at hrow
  have hb1 : Below w.heap.size w (w.alloc (.cells #[.map (some M)] 46)) := (Below.refl _ w).alloc (Nat.le_refl _) _
  exact ⟨v, t, rfl, Try.row_base hrow (by simp), hb1.trans (hb.mono (by simp))⟩

/-- A row's value and its numbers, for whatever reads it. -/
theorem Try.row_look {w : World} {base : Nat} {e : TypeId} {v : Value} {L : List Int} (h : w.ownsRow base e 1 v L.length (L.map encZ)) : ∃ sa cap, v = .slice sa L.length cap ∧ ∀ i, (hi : i < L.length) → ∃ g, sa = some ⟨g, 0, none⟩ ∧ w.cell? ⟨g, i, none⟩ = some (.int .i64 L[i]) := by
  rcases h.2 with ⟨rfl, h0⟩ | ⟨g, cap, cur, rfl, hg, hblk, hr⟩
  · exact ⟨none, 0, by rw [h0], fun i hi => absurd hi (by omega)⟩
  · exact ⟨some ⟨g, 0, none⟩, cap, rfl, fun i hi => ⟨g, rfl, by rw [h.cellAt i (by omega)]; simp [List.getElem?_eq_getElem hi]⟩⟩

set_option maxRecDepth 100000 in
set_option maxHeartbeats 1000000 in
theorem Try.ints_any (t1 t2 b1 b2 : Nat) (v1 v2 : Value) (L : List Int) (w : World) (h1 : w.ownsRow b1 t1 1 v1 L.length (L.map encZ)) (h2 : w.ownsRow b2 t2 1 v2 L.length (L.map encZ)) (hL : L.length ≤ 1000000) :
    Calls Try.prog 15 #[v1, v2] w fun e w' => e = .returned (.bool true) ∧ ∃ q, w' = w.drewN q := by
  obtain ⟨sa1, cap1, rfl, l1⟩ := Try.row_look h1
  obtain ⟨sa2, cap2, rfl, l2⟩ := Try.row_look h2
  clear h1 h2
  go_enter Try.func15, Try.ntmps15
  go_wp2
  go_loopw [5] (fun c wr => ∃ i : Nat, i ≤ L.length ∧ c = .int .i64 i ∧ ∃ q, wr = w.drewN q) (fun c _ => L.length - (RowKit.intOf c).toNat)
  case atStart => exact ⟨0, Nat.zero_le _, rfl, 0, rfl⟩
  case round =>
    obtain ⟨i, hi, rfl, q, rfl⟩ := hrel
    by_cases hik : i < L.length
    · obtain ⟨g1, rfl, hc1⟩ := l1 i hik
      obtain ⟨g2, rfl, hc2⟩ := l2 i hik
      obtain ⟨z, hz⟩ : ∃ z, L[i] = z := ⟨_, rfl⟩
      rw [hz] at hc1 hc2
      clear l1 l2 hz
      go_wp2_with fail
      go_quiet (fail)
      go_wp2
      exact ⟨⟨i + 1, by omega, by push_cast; rfl, q + nq, by simp [World.drewN]⟩, by simp only [RowKit.intOf]; omega⟩
    · have hik' : i = L.length := by omega
      subst hik'
      go_wp2
      go_ret
      exact ⟨rfl, q, rfl⟩
end Go.Proofs
