import Derived.Test.YtihjjmhkfbcdeaaSecC
namespace Go.Proofs
open Go.RowKit Go.Maps Go.Sort

theorem Try.wrap_u64 (k : Nat) (h : k ≤ 1000000) : IntKind.wrap .u64 (k : Int) = k := by unfold IntKind.wrap; simp [IntKind.signed, IntKind.bits]; omega
theorem Try.wrap_i64 (k : Nat) (h : k ≤ 1000000) : IntKind.wrap .i64 (k : Int) = k := by unfold IntKind.wrap; simp [IntKind.signed, IntKind.bits]; omega

set_option maxRecDepth 100000 in
set_option maxHeartbeats 1000000 in
theorem Try.zero_any (S B M n m k : Nat) (p : Int) (w : World) (st : Try.Store w S B M n m) (hn : n ≤ 4096) (hm : m ≤ 900000) (hk : k ≤ 80) (hp : 0 ≤ p) :
    Calls Try.prog 13 #[.pointer (some ⟨S, 0, none⟩), .int .u64 p, .int .u64 k] w fun e w' => e = .returned (.int .i64 (if p ≤ n ∧ (k : Int) ≤ n - p then 0 else 5)) ∧ ∃ m', m' ≤ m + k ∧ Try.Store w' S B M n m' ∧ Try.Moved B M w w' := by
  obtain ⟨hz, hsz⟩ := zero_of_info Try.info50
  have hc := Try.has_any S n _ p k w st.s0 hn hp
  by_cases hin : p ≤ n ∧ (k : Int) ≤ n - p
  · rw [decide_eq_true hin] at hc
    rw [if_pos hin]
    obtain ⟨q, rfl⟩ := Int.eq_ofNat_of_zero_le hp
    have hwk := Try.wrap_i64 k (by omega)
    have hwq := Try.wrap_i64 q (by omega)
    go_enter Try.func13, Try.ntmps13
    go_wp2_with (first
      | (go_at_call 9; refine hc.mono ?_; rintro e w' ⟨rfl, hw⟩; have hw := hw.symm; subst hw)
      | go_in)
    go_loopw [19] (fun c wr => ∃ i : Nat, i ≤ k ∧ c = .int .i64 i ∧ ∃ m', m' ≤ m + i ∧ Try.Store wr S B M n m' ∧ Try.Moved B M w wr) (fun c _ => k - (intOf c).toNat)
    case atStart => exact ⟨0, Nat.zero_le _, rfl, m, by omega, st, Try.Moved.refl _ _ _⟩
    case round =>
      obtain ⟨i, hi, rfl, m', hm', st', mv⟩ := hrel
      have hput := fun (hik : i < k) => Try.put_any S B M n m' (q + i) (Array.replicate 512 (.int .u8 0)) wr st' (by omega) hn (by omega) (by simp) Try.zeros1
      rw [show ((q + i : Nat) : Int) = (q : Int) + i by push_cast; rfl] at hput
      go_wp2_with (first
        | (go_at_call 21; refine (hput (by omega)).mono ?_; rintro e w' ⟨rfl, st2, mv2⟩)
        | go_in)
      · exact ⟨⟨i + 1, by omega, by push_cast; rfl, m' + 1, by omega, st2, mv.trans mv2⟩, by simp only [intOf]; omega⟩
      · go_wp2
        go_ret
        exact ⟨rfl, m', by omega, st', mv⟩
  · rw [decide_eq_false hin] at hc
    rw [if_neg hin]
    go_enter Try.func13, Try.ntmps13
    go_wp2_with (first
      | (go_at_call 9; refine hc.mono ?_; rintro e w' ⟨rfl, hw⟩; have hw := hw.symm; subst hw)
      | go_in)
    go_ret
    exact ⟨rfl, m, by omega, st, Try.Moved.refl _ _ _⟩
end Go.Proofs
