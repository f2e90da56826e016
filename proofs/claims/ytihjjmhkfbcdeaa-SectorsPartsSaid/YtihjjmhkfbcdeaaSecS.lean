import Derived.Test.YtihjjmhkfbcdeaaSecR
namespace Go.Proofs
open Go.RowKit Go.Maps Go.Sort

set_option maxRecDepth 100000 in
set_option maxHeartbeats 1000000 in
theorem Try.write_in (S B M n m k q cap : Nat) (v : Int) (sa : Option Addr) (f : Nat → Int) (K : Int → Bool) (w : World) (st : Try.Whole w S B M n m f K) (hn : n ≤ 4096) (hm : m ≤ 900000) (hk : k ≤ 80) (hin : q + k ≤ n) (hcap : k * 512 ≤ cap)
    (hd : ∀ i, i < k → ∃ R, sa = some ⟨R, 0, none⟩ ∧ R ≠ B ∧ R ≠ M ∧ w.rangeAt R (i * 512) (List.replicate 512 (.int .u8 v))) :
    Calls Try.prog 11 #[.pointer (some ⟨S, 0, none⟩), .int .u64 q, .slice sa (k * 512) cap] w fun e w' => e = .returned (.int .i64 0) ∧ Try.Whole w' S B M n (m + k) (Try.fillAt f q k v) (Try.keysAt K q k) ∧ Try.Moved B M w w' := by
  obtain ⟨hz, hsz⟩ := zero_of_info Try.info50
  have hc := Try.has_yes S n _ q k w st.s0 hn (by omega) (by omega)
  have ht1 : ((k : Int) * 512).tdiv 512 = k := by rw [Int.tdiv_eq_ediv_of_nonneg (by omega)]; omega
  have ht2 : ((k : Int) * 512).tmod 512 = 0 := by rw [Int.tmod_eq_emod_of_nonneg (by omega)]; omega
  have hwk := Try.wrap_u64 k (by omega)
  have hwq := Try.wrap_i64 q (by omega)
  go_enter Try.func11, Try.ntmps11
  go_wp2_with (first
    | (go_at_call 9; refine hc.mono ?_; rintro e w' ⟨rfl, hw⟩; have hw := hw.symm; subst hw)
    | go_in)
  go_loopw [28] (fun c wr => ∃ i : Nat, i ≤ k ∧ c = .int .i64 i ∧ Try.Whole wr S B M n (m + i) (Try.fillAt f q i v) (Try.keysAt K q i) ∧ Try.Moved B M w wr) (fun c _ => k - (RowKit.intOf c).toNat)
  case atStart => exact ⟨0, Nat.zero_le _, rfl, st.congr (fun j _ => Try.fill_none f q v j) (fun x => Try.keys_none K q x), Try.Moved.refl _ _ _⟩
  case round =>
    obtain ⟨i, hi, rfl, st', mv⟩ := hrel
    by_cases hik : i < k
    · obtain ⟨R, rfl, hRB, hRM, hur⟩ := hd i hik
      obtain ⟨us, hus⟩ : ∃ us, List.replicate 512 (Value.int .u8 v) = us := ⟨_, rfl⟩
      have hput := Try.put_whole S B M n (m + i) (q + i) v _ _ wr st' (by omega) hn (by omega)
      have har : Array.replicate 512 (Value.int .u8 v) = us.toArray := by rw [← hus]; rfl
      rw [har] at hput
      have hul : us.length = 512 := by rw [← hus]; exact List.length_replicate
      rw [hus] at hur
      clear har hus
      have hur' := Try.range_kept hur (mv.block R (World.block_lt_of_cell? w _ (hur 0 (us[0]'(by omega)) (by simp))) hRB hRM)
      rw [show ((q + i : Nat) : Int) = (q : Int) + i by push_cast; rfl] at hput
      have hne : ¬ (cap = i * 512) := by omega
      go_wp2_with (first
        | (go_at_call 21; refine hput.mono ?_; rintro e w' ⟨rfl, st2, mv2⟩)
        | go_in)
      have harr := run_arrayAt (P := Try.prog) (w := wr) 50 5 512 (some ⟨R, i * 512, none⟩) ((i + 1) * 512 - i * 512) (cap - i * 512) Try.underlying50 (by omega)
      rw [harr]
      simp only [Result.andThen_ok]
      go_wp2_with (first
        | (refine wpList_load_mid rfl 50 _ rfl R (i * 512) rfl us (.array 512 5) hur' Try.underlying50 rfl (by rw [hsz, hul]) ?_)
        | (go_at_call 21; refine hput.mono ?_; rintro e w' ⟨rfl, st2, mv2⟩)
        | go_in)
      exact ⟨⟨i + 1, by omega, by push_cast; rfl, st2.congr (fun j _ => Try.fill_step f q i v j) (fun x => Try.keys_step K q i x), mv.trans mv2⟩, by simp only [RowKit.intOf]; omega⟩
    · have hik' : i = k := by omega
      subst hik'
      go_wp2
      go_wp2
      go_ret
      exact ⟨rfl, st', mv⟩

set_option maxRecDepth 100000 in
set_option maxHeartbeats 1000000 in
theorem Try.write_out (S n k cap : Nat) (sa : Option Addr) (bs : Option Addr) (q : Nat) (w : World) (hs : w.cell? ⟨S, 0, none⟩ = some (.slice bs n n)) (hn : n ≤ 4096) (hk : k ≤ 80) (hq : q ≤ 1000) (hin : ¬ q + k ≤ n) :
    Calls Try.prog 11 #[.pointer (some ⟨S, 0, none⟩), .int .u64 q, .slice sa (k * 512) cap] w fun e w' => e = .returned (.int .i64 5) ∧ w' = w := by
  have hc := Try.has_not S n _ q k w hs hn (by omega) (by omega)
  have ht1 : ((k : Int) * 512).tdiv 512 = k := by rw [Int.tdiv_eq_ediv_of_nonneg (by omega)]; omega
  have ht2 : ((k : Int) * 512).tmod 512 = 0 := by rw [Int.tmod_eq_emod_of_nonneg (by omega)]; omega
  have hwk := Try.wrap_u64 k (by omega)
  go_enter Try.func11, Try.ntmps11
  go_wp2_with (first
    | (go_at_call 9; refine hc.mono ?_; rintro e w' ⟨rfl, hw⟩; have hw := hw.symm; subst hw)
    | go_in)
  go_ret
  exact ⟨rfl, rfl⟩

set_option maxRecDepth 100000 in
set_option maxHeartbeats 1000000 in
theorem Try.zero_out (S n k : Nat) (bs : Option Addr) (q : Nat) (w : World) (hs : w.cell? ⟨S, 0, none⟩ = some (.slice bs n n)) (hn : n ≤ 4096) (hin : ¬ q + k ≤ n) :
    Calls Try.prog 13 #[.pointer (some ⟨S, 0, none⟩), .int .u64 q, .int .u64 k] w fun e w' => e = .returned (.int .i64 5) ∧ w' = w := by
  have hc := Try.has_not S n _ q k w hs hn (by omega) (by omega)
  go_enter Try.func13, Try.ntmps13
  go_wp2_with (first
    | (go_at_call 9; refine hc.mono ?_; rintro e w' ⟨rfl, hw⟩; have hw := hw.symm; subst hw)
    | go_in)
  go_ret
  exact ⟨rfl, rfl⟩
end Go.Proofs
