import Derived.Test.YtihjjmhkfbcdeaaSecD
import Derived.Laws.Cover3
namespace Go.Proofs
open Go.RowKit Go.Maps Go.Sort

set_option maxRecDepth 100000 in
set_option maxHeartbeats 1000000 in
theorem Try.write_any (S B M n m k cap : Nat) (sa : Option Addr) (p : Int) (w : World) (st : Try.Store w S B M n m) (hn : n ≤ 4096) (hm : m ≤ 900000) (hk : k ≤ 80) (hp : 0 ≤ p) (hcap : k * 512 ≤ cap)
    (hd : ∀ i, i < k → ∃ R, sa = some ⟨R, 0, none⟩ ∧ R ≠ B ∧ R ≠ M ∧ ∃ us : List Value, us.length = 512 ∧ w.rangeAt R (i * 512) us ∧ ∀ v ∈ us, v.oneCell' = true) :
    Calls Try.prog 11 #[.pointer (some ⟨S, 0, none⟩), .int .u64 p, .slice sa (k * 512) cap] w fun e w' => e = .returned (.int .i64 (if p ≤ n ∧ (k : Int) ≤ n - p then 0 else 5)) ∧ ∃ m', m' ≤ m + k ∧ Try.Store w' S B M n m' ∧ Try.Moved B M w w' := by
  obtain ⟨hz, hsz⟩ := zero_of_info Try.info50
  have hc := Try.has_any S n _ p k w st.s0 hn hp
  have ht1 : ((k : Int) * 512).tdiv 512 = k := by rw [Int.tdiv_eq_ediv_of_nonneg (by omega)]; omega
  have ht2 : ((k : Int) * 512).tmod 512 = 0 := by rw [Int.tmod_eq_emod_of_nonneg (by omega)]; omega
  have hwk := Try.wrap_u64 k (by omega)
  by_cases hin : p ≤ n ∧ (k : Int) ≤ n - p
  · rw [decide_eq_true hin] at hc
    rw [if_pos hin]
    obtain ⟨q, rfl⟩ := Int.eq_ofNat_of_zero_le hp
    have hwq := Try.wrap_i64 q (by omega)
    go_enter Try.func11, Try.ntmps11
    go_wp2_with (first
      | (go_at_call 9; refine hc.mono ?_; rintro e w' ⟨rfl, hw⟩; have hw := hw.symm; subst hw)
      | go_in)
    go_loopw [28] (fun c wr => ∃ i : Nat, i ≤ k ∧ c = .int .i64 i ∧ ∃ m', m' ≤ m + i ∧ Try.Store wr S B M n m' ∧ Try.Moved B M w wr) (fun c _ => k - (intOf c).toNat)
    case atStart => exact ⟨0, Nat.zero_le _, rfl, m, by omega, st, Try.Moved.refl _ _ _⟩
    case round =>
      obtain ⟨i, hi, rfl, m', hm', st', mv⟩ := hrel
      by_cases hik : i < k
      · obtain ⟨R, rfl, hRB, hRM, us, hul, hur, hu1⟩ := hd i hik
        have hur' := Try.range_kept hur (mv.block R (World.block_lt_of_cell? w _ (hur 0 (us[0]'(by omega)) (by simp))) hRB hRM)
        have hput := Try.put_any S B M n m' (q + i) us.toArray wr st' (by omega) hn (by omega) (by simp [hul]) (all_oneCell_toArray hu1)
        rw [show ((q + i : Nat) : Int) = (q : Int) + i by push_cast; rfl] at hput
        have hne : ¬ (cap = i * 512) := by omega
        go_wp2_with (first
          | (go_at_call 21; refine hput.mono ?_; rintro e w' ⟨rfl, st2, mv2⟩)
          | go_in)
        have harr := run_arrayAt (P := Try.prog) (w := wr) 50 5 512 (some ⟨R, i * 512, none⟩) ((i + 1) * 512 - i * 512) (cap - i * 512) Try.underlying50 (by omega)
        rw [harr]
        simp only [Result.andThen_ok]
        go_wp2_with (first
          | (refine wpList_load_mid rfl 50 _ rfl R (i * 512) rfl us (.array 512 5) hur' Try.underlying50 rfl (by rw [hsz, hul]) ?_)
          | (go_at_call 21; refine hput.mono ?_; rintro e w' ⟨rfl, st2, mv2⟩)
          | go_in)
        exact ⟨⟨i + 1, by omega, by push_cast; rfl, m' + 1, by omega, st2, mv.trans mv2⟩, by simp only [intOf]; omega⟩
      · go_wp2
        go_wp2
        go_ret
        exact ⟨rfl, m', by omega, st', mv⟩
  · rw [decide_eq_false hin] at hc
    rw [if_neg hin]
    go_enter Try.func11, Try.ntmps11
    go_wp2_with (first
      | (go_at_call 9; refine hc.mono ?_; rintro e w' ⟨rfl, hw⟩; have hw := hw.symm; subst hw)
      | go_in)
    go_ret
    exact ⟨rfl, m, by omega, st, Try.Moved.refl _ _ _⟩

theorem Try.infoB2 : (Try.prog.info? 5).map (fun i => (i.zero, i.size, i.bytes)) = some (some (.int .u8 0), 1, 1) := by kernel_rfl

set_option maxRecDepth 100000 in
set_option maxHeartbeats 1000000 in
theorem Try.read_any (S B M n m k : Nat) (p : Int) (w : World) (st : Try.Store w S B M n m) (hn : n ≤ 4096) (hk : k ≤ 80) (hp : 0 ≤ p) :
    Calls Try.prog 10 #[.pointer (some ⟨S, 0, none⟩), .int .u64 p, .int .i64 k] w fun e w' => ∃ sa L cap, e = .returned (.tuple #[.slice sa L cap, .int .i64 (if p ≤ n ∧ (k : Int) ≤ n - p then 0 else 5)]) ∧
      ((p ≤ n ∧ (k : Int) ≤ n - p) → L = k * 512) ∧ Try.Store w' S B M n m ∧ Below w.heap.size w w' := by
  obtain ⟨hz, hsz⟩ := zero_of_info Try.info50
  obtain ⟨i0, hi0, hz0, hz1, hzb⟩ := info_parts Try.infoB2
  have hc := Try.has_any S n _ p k w st.s0 hn hp
  have hwk := Try.wrap_u64 k (by omega)
  by_cases hin : p ≤ n ∧ (k : Int) ≤ n - p
  · rw [decide_eq_true hin] at hc
    rw [if_pos hin]
    obtain ⟨q, rfl⟩ := Int.eq_ofNat_of_zero_le hp
    have hwq := Try.wrap_i64 q (by omega)
    go_enter Try.func10, Try.ntmps10
    go_wp2_with (first
      | (go_at_call 9; refine hc.mono ?_; rintro e w' ⟨rfl, hw⟩; have hw := hw.symm; subst hw)
      | go_in)
    go_loopw [8, 24] (fun v c wr => ∃ i : Nat, i ≤ k ∧ c = .int .i64 i ∧ (∃ xs, wr.ownsRow w.heap.size 5 1 v (i * 512) xs) ∧ Below w.heap.size w wr) (fun _ c _ => k - (intOf c).toNat)
    case atStart => exact ⟨0, Nat.zero_le _, rfl, ⟨[], World.ownsRow_nil _ _ _ _⟩, Below.refl _ _⟩
    case round =>
      obtain ⟨i, hi, rfl, ⟨xs, hrow⟩, hnx⟩ := hrel
      have st' := st.kept (w' := wr) (fun j hj _ => hnx.block j hj) hnx.size
      by_cases hik : i < k
      · obtain ⟨us, hul, hur, hu1⟩ := st'.range (q + i) (by omega)
        have c0 := st'.s0
        have hqi : ((q : Int) + i).toNat = q + i := by omega
        go_wp2_with (first
          | (at_builtin; go_loud (refine wpList_append_own _ rfl _ _ 30 rfl w.heap.size 5 i0 (.int .u8 0) 1 1 Try.underlying30 hi0 hz0 hz1 hzb rfl (by decide) _ _ _ rfl hrow ⟨B, (q + i) * 512, none⟩ 512 512 us rfl (by rw [hul]) (fun j v hv => by rw [Addr.add_mid]; exact hur j v hv) hu1 (by unfold maxLen; omega) (by omega) hnx.size ?_); intro v' w3 hown' hg3 hnil3; go_frame)
          | go_in)
        refine ⟨⟨i + 1, by omega, by push_cast; rfl, ⟨xs ++ us, by rw [show (i + 1) * 512 = i * 512 + 512 by omega]; exact hown'⟩, hnx.grown hg3 hnx.size (fun j hj => (hrow.lt j hj).1)⟩, by simp only [intOf]; omega⟩
      · have hik' : i = k := by omega
        subst hik'
        go_wp2
        go_ret2
        rcases hrow.2 with ⟨rfl, h0⟩ | ⟨g, cap, cur, rfl, _⟩
        · exact ⟨none, 0, 0, rfl, fun _ => h0.symm, st', hnx⟩
        · exact ⟨some ⟨g, 0, none⟩, i * 512, cap, rfl, fun _ => rfl, st', hnx⟩
  · rw [decide_eq_false hin] at hc
    rw [if_neg hin]
    go_enter Try.func10, Try.ntmps10
    go_wp2_with (first
      | (go_at_call 9; refine hc.mono ?_; rintro e w' ⟨rfl, hw⟩; have hw := hw.symm; subst hw)
      | go_in)
    go_ret2
    exact ⟨_, _, _, rfl, fun h => absurd h hin, st, Below.refl _ _⟩
end Go.Proofs
