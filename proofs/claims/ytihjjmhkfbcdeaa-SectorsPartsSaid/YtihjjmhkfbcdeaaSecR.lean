import Derived.Test.YtihjjmhkfbcdeaaSecQ
import Derived.Test.YtihjjmhkfbcdeaaSecG
import Derived.Laws.Cover3
namespace Go.Proofs
open Go.RowKit Go.Maps Go.Sort

theorem Try.fill_step (f : Nat → Int) (q i : Nat) (v : Int) (j : Nat) : Try.fillAt f q (i + 1) v j = Try.fillAt (Try.fillAt f q i v) (q + i) 1 v j := by
  unfold Try.fillAt
  repeat' split
  all_goals first | rfl | omega
theorem Try.keys_step (K : Int → Bool) (q i : Nat) (x : Int) : Try.keysAt K q (i + 1) x = Try.keysAt (Try.keysAt K q i) (q + i) 1 x := by
  unfold Try.keysAt
  rw [Bool.or_assoc]
  congr 1
  rw [← Bool.decide_or]
  congr 1
  apply propext
  omega
theorem Try.fill_none (f : Nat → Int) (q : Nat) (v : Int) (j : Nat) : Try.fillAt f q 0 v j = f j := by
  unfold Try.fillAt
  rw [if_neg (by omega)]
theorem Try.keys_none (K : Int → Bool) (q : Nat) (x : Int) : Try.keysAt K q 0 x = K x := by
  unfold Try.keysAt
  rw [decide_eq_false (by omega), Bool.or_false]

theorem Try.row_uni (k : Nat) (v : Int) (w : World) (hk : k ≤ 80) :
    Calls Try.prog 12 #[.int .i64 k, .int .u8 v, .bool false] w fun e w' => ∃ sa cap, e = .returned (.slice sa (k * 512) cap) ∧ k * 512 ≤ cap ∧
      (∀ i, i < k → ∃ R, sa = some ⟨R, 0, none⟩ ∧ w.heap.size ≤ R ∧ w'.rangeAt R (i * 512) (List.replicate 512 (.int .u8 v))) ∧ Below w.heap.size w w' := by
  refine (Try.row_any k v w hk).mono ?_
  rintro e w' ⟨x, rfl, hrow, hb⟩
  rcases hrow.2 with ⟨rfl, h0⟩ | ⟨g, cap, cur, rfl, hbase, hblk, hcap, hmax, hsz, htk⟩
  · have hk0 : k = 0 := by omega
    subst hk0
    exact ⟨none, 0, rfl, by omega, fun i hi => absurd hi (by omega), hb⟩
  · refine ⟨some ⟨g, 0, none⟩, cap, rfl, hcap, fun i hi => ⟨g, rfl, hbase, fun j u hu => ?_⟩, hb⟩
    have hj : j < 512 := by have := (List.getElem?_eq_some_iff.1 hu).1; rwa [List.length_replicate] at this
    have hu' : u = .int .u8 v := by
      rw [List.getElem?_replicate, if_pos hj] at hu
      exact (Option.some.inj hu).symm
    subst hu'
    rw [cell_of_row w' g (i * 512 + j) cur 5 (0, 0) hblk]
    have e1 := congrArg (fun l : List Value => l[i * 512 + j]?) htk
    simp only [List.getElem?_take, List.getElem?_replicate, Nat.mul_one] at e1
    have hlt : i * 512 + j < k * 512 := by omega
    rw [if_pos hlt, if_pos hlt] at e1
    simpa using e1

set_option maxRecDepth 100000 in
set_option maxHeartbeats 1000000 in
theorem Try.zero_in (S B M n m k q : Nat) (f : Nat → Int) (K : Int → Bool) (w : World) (st : Try.Whole w S B M n m f K) (hn : n ≤ 4096) (hm : m ≤ 900000) (hk : k ≤ 80) (hin : q + k ≤ n) :
    Calls Try.prog 13 #[.pointer (some ⟨S, 0, none⟩), .int .u64 q, .int .u64 k] w fun e w' => e = .returned (.int .i64 0) ∧ Try.Whole w' S B M n (m + k) (Try.fillAt f q k 0) (Try.keysAt K q k) ∧ Try.Moved B M w w' := by
  obtain ⟨hz, hsz⟩ := zero_of_info Try.info50
  have hc := Try.has_yes S n _ q k w st.s0 hn (by omega) (by omega)
  have hwk := Try.wrap_i64 k (by omega)
  have hwq := Try.wrap_i64 q (by omega)
  go_enter Try.func13, Try.ntmps13
  go_wp2_with (first
    | (go_at_call 9; refine hc.mono ?_; rintro e w' ⟨rfl, hw⟩; have hw := hw.symm; subst hw)
    | go_in)
  go_loopw [19] (fun c wr => ∃ i : Nat, i ≤ k ∧ c = .int .i64 i ∧ Try.Whole wr S B M n (m + i) (Try.fillAt f q i 0) (Try.keysAt K q i) ∧ Try.Moved B M w wr) (fun c _ => k - (RowKit.intOf c).toNat)
  case atStart => exact ⟨0, Nat.zero_le _, rfl, st.congr (fun j _ => Try.fill_none f q 0 j) (fun x => Try.keys_none K q x), Try.Moved.refl _ _ _⟩
  case round =>
    obtain ⟨i, hi, rfl, st', mv⟩ := hrel
    have hput := fun (hik : i < k) => Try.put_whole S B M n (m + i) (q + i) 0 _ _ wr st' (by omega) hn (by omega)
    rw [show ((q + i : Nat) : Int) = (q : Int) + i by push_cast; rfl] at hput
    go_wp2_with (first
      | (go_at_call 21; refine (hput (by omega)).mono ?_; rintro e w' ⟨rfl, st2, mv2⟩)
      | go_in)
    · exact ⟨⟨i + 1, by omega, by push_cast; rfl, st2.congr (fun j _ => Try.fill_step f q i 0 j) (fun x => Try.keys_step K q i x), mv.trans mv2⟩, by simp only [RowKit.intOf]; omega⟩
    · have hik : i = k := by omega
      subst hik
      go_wp2
      go_ret
      exact ⟨rfl, st', mv⟩
end Go.Proofs
